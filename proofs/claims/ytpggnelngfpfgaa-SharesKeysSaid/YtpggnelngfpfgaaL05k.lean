/- SharesKeys: the walk. -/
import Derived.Test.YtpggnelngfpfgaaL05a
import Derived.Test.YtpggnelngfpfgaaStep
import Derived.Test.YtpggnelngfpfgaaShG
namespace Go.Proofs.Ytpggnelngfpfgaa
open Go.RowKit

theorem min_max_two (a b : Int) : ∃ l, gsU [a, b] = l ∧ 1 ≤ l.length ∧ l.head? = some (min a b) ∧ l.getLast? = some (max a b) ∧ (decide (l.length = 1)) = decide (a = b) := by
  refine ⟨_, rfl, ?_⟩
  rw [gsU_two]
  split
  · rename_i h
    exact ⟨by simp, by simp; omega, by simp; omega, by simp; omega⟩
  · split
    · rename_i h
      exact ⟨by simp, by simp; omega, by simp; omega, by simp; omega⟩
    · have : a = b := by omega
      subst this
      exact ⟨by simp, by simp, by simp, by simp⟩
set_option maxRecDepth 100000 in
set_option maxHeartbeats 16000000 in
theorem sharesKeys_any (w : World) (ep : Int) (v : Value) (xs : List Shr) (p q key other : ByteArray) (hv : RdSh w v xs) (hs : SmallS xs) (hp : p.size ≤ 140737488351232) (hq : q.size ≤ 140737488351232) (hk : key.size ≤ 140737488351232) (ho : other.size ≤ 140737488351232) :
    Calls Try.prog 5 #[.agg #[.int .i64 ep, v], .agg #[.string p, .string q], .string key, .string other] w fun e w' => e = .returned (.bool true) ∧ Fr Nix w w' := by
  obtain ⟨n, hn⟩ : ∃ n, n = xs.length := ⟨_, rfl⟩
  obtain ⟨A, c, hvf⟩ : ∃ A c, v = .slice A n c := by obtain ⟨A, c, e⟩ := hv.form; exact ⟨A, c, by rw [hn]; exact e⟩
  subst hvf
  have HV := Lib.hid hv
  have HS := Lib.hid hs
  have HN := Lib.hid hn
  have HSK : Hid (SmallT [p, q, key, other]) := fun s h => by
    simp only [List.mem_cons, List.not_mem_nil, or_false] at h
    rcases h with rfl | rfl | rfl | rfl <;> assumption
  clear hv hs hn hp hq hk ho
  go_enter Try.func5, Try.ntmps5
  go_wp2_with fail
  refine (awake05_any _).mono ?_
  rintro e w1 ⟨rfl, h1⟩
  have Ab0 : w1.cell? ⟨w.heap.size, 0, none⟩ = some (.int .i64 ep) := h1.cell' (by go_simp)
  have Ab1 : w1.cell? ⟨w.heap.size, 1, none⟩ = some (.slice A n c) := h1.cell' (by go_simp)
  have Ab2 : w1.cell? ⟨w.heap.size + 1, 0, none⟩ = some (.string p) := h1.cell' (by go_simp)
  have Ab3 : w1.cell? ⟨w.heap.size + 1, 1, none⟩ = some (.string q) := h1.cell' (by go_simp)
  have F1 : Hid (Fr Nix w w1) := (((Fr.refl _ _).alloc _).alloc _).nix h1
  obtain ⟨N0, hN0⟩ : ∃ N0, N0 = w.heap.size := ⟨_, rfl⟩
  rw [← hN0] at Ab0 Ab1 Ab2 Ab3 ⊢
  clear h1 hN0
  have z0 := ups (World.block_lt_of_cell? _ _ Ab0)
  have z1 := ups (World.block_lt_of_cell? _ _ Ab2)
  go_wp2_with fail
  have RL := (Own1.lit (T := 9) (f := Value.string) w1 [p, q, key, other] (by simp)).rd
  refine (great05_any _ ep (.slice A n c) _ xs [p, q, key, other] (HV.out.nix (F1.out.alloc _)) HS.out RL HSK.out).mono ?_
  rintro e w2 ⟨bb, rfl, g2, f2⟩
  have F12 : Fr Nix w1 w2 := ((Fr.refl _ _).alloc _).nix f2
  have Bb0 : w2.cell? ⟨N0, 0, none⟩ = some (.int .i64 ep) := F12.cell' Ab0
  have Bb1 : w2.cell? ⟨N0, 1, none⟩ = some (.slice A n c) := F12.cell' Ab1
  have Bb2 : w2.cell? ⟨N0 + 1, 0, none⟩ = some (.string p) := F12.cell' Ab2
  have Bb3 : w2.cell? ⟨N0 + 1, 1, none⟩ = some (.string q) := F12.cell' Ab3
  have F2 : Hid (Fr Nix w w2) := F1.out.nix F12
  clear f2 RL F12 z0 z1 F1 Ab0 Ab1 Ab2 Ab3 HSK
  cases bb with
  | true =>
    go_wp2_with fail
    go_ret
    exact ⟨rfl, F2.out⟩
  | false =>
    have hl : xs.length ≤ 1000000000 := by have := (g2 rfl).1; omega
    clear g2
    have HO1 := fun W (h : Fr Nix w W) => Lib.hid (of_any W ep (.slice A n c) xs key (HV.out.nix h) hl)
    have HO2 := fun W (h : Fr Nix w W) => Lib.hid (of_any W ep (.slice A n c) xs other (HV.out.nix h) hl)
    have HI := fun W (h : Fr Nix w W) => Lib.hid (inS_any W ep (.slice A n c) xs p q (HV.out.nix h) hl)
    have HR := fun W (h : Fr Nix w W) => Lib.hid (sharesRight_any W ep (.slice A n c) xs (HV.out.nix h) hl)
    obtain ⟨s, hsd⟩ : ∃ s : Shs, s = ⟨ep, xs⟩ := ⟨_, rfl⟩
    have HGR := fun W (kv : Value) (h : Fr Nix w W) hk => Lib.hid (groups_any W ep (.slice A n c) kv xs [key, other] (HV.out.nix h) hl hk (by simp))
    rw [← hsd] at HO1 HO2 HI HR HGR
    obtain ⟨og, hog⟩ : ∃ o, o = groupsB s [key, other] := ⟨_, rfl⟩
    rw [← hog] at HGR
    have HOG : Hid (og = if rightS s && [key, other].all keyB then some (gsU ([key, other].map (grpB s))) else none) := hog
    clear hog
    obtain ⟨oa, hoa⟩ : ∃ o, o = ofB s key := ⟨_, rfl⟩
    obtain ⟨ob, hob⟩ : ∃ o, o = inS s p q := ⟨_, rfl⟩
    obtain ⟨oc, hoc⟩ : ∃ o, o = ofB s other := ⟨_, rfl⟩
    rw [← hoa] at HO1
    rw [← hob] at HI
    rw [← hoc] at HO2
    have SA : Hid (oa.isSome = (rightS s && keyB key)) := by show _ = _; rw [hoa, of_isSome]
    have SC : Hid (oc.isSome = (rightS s && keyB other)) := by show _ = _; rw [hoc, of_isSome]
    have HASA : Hid (∀ a, oa = some a → hasB a.lo a.hi key = true ∧ grpB s key = a.g) := fun a h => ⟨(of_has (hoa.symm.trans h)).1, by unfold grpB; rw [← hoa, h]; rfl⟩
    have HASC : Hid (∀ a, oc = some a → grpB s other = a.g) := fun a h => by unfold grpB; rw [← hoc, h]; rfl
    have WB : Hid (∀ b, ob = some b → withB p q b.lo b.hi = true ∧ rightS s = true ∧ (hasB p q key = true → ∀ a, oa = some a → a = b)) := fun b h => ⟨(in_with (hob.symm.trans h)).1, (in_with (hob.symm.trans h)).2.2, fun hk a ha => in_of (hob.symm.trans h) hk (hoa.symm.trans ha)⟩
    clear hoa hob hoc hsd
    obtain ⟨a, ha⟩ : ∃ a, a = oa.getD Shr.zero := ⟨_, rfl⟩
    obtain ⟨b, hb⟩ : ∃ b, b = ob.getD Shr.zero := ⟨_, rfl⟩
    obtain ⟨d, hd⟩ : ∃ d, d = oc.getD Shr.zero := ⟨_, rfl⟩
    rw [← ha] at HO1
    rw [← hb] at HI
    rw [← hd] at HO2
    have HA := Lib.hid ha
    have HB := Lib.hid hb
    have HD := Lib.hid hd
    clear ha hb hd
    unfold Shr.val at HO1 HO2 HI
    obtain ⟨alo, ahi, ag, ae⟩ := a
    obtain ⟨blo, bhi, bg, be⟩ := b
    obtain ⟨dlo, dhi, dg, de⟩ := d
    dsimp only at HO1 HO2 HI
    generalize hia : oa.isSome = ia at HO1 SA
    generalize hib : ob.isSome = ib at HI
    generalize hic : oc.isSome = ic at HO2 SC
    have HIA := Lib.hid hia
    have HIB := Lib.hid hib
    have HIC := Lib.hid hic
    clear hia hib hic
    have AF : Hid (ia = true → hasB alo ahi key = true ∧ grpB s key = ag ∧ oa = some ⟨alo, ahi, ag, ae⟩) := fun h => by
      have h1 := HIA.out
      rw [h] at h1
      obtain ⟨a', ha'⟩ := Option.isSome_iff_exists.1 h1
      have h2 := HA.out
      rw [ha'] at h2
      simp only [Option.getD_some] at h2
      subst h2
      exact ⟨(HASA.out _ ha').1, (HASA.out _ ha').2, ha'⟩
    have DF : Hid (ic = true → grpB s other = dg) := fun h => by
      have h1 := HIC.out
      rw [h] at h1
      obtain ⟨a', ha'⟩ := Option.isSome_iff_exists.1 h1
      have h2 := HD.out
      rw [ha'] at h2
      simp only [Option.getD_some] at h2
      subst h2
      exact HASC.out _ ha'
    have BF : Hid (ib = true → ob = some ⟨blo, bhi, bg, be⟩) := fun h => by
      have h1 := HIB.out
      rw [h] at h1
      obtain ⟨a', ha'⟩ := Option.isSome_iff_exists.1 h1
      have h2 := HB.out
      rw [ha'] at h2
      simp only [Option.getD_some] at h2
      subst h2
      exact ha'
    have GN : Hid ((ia && ic) = false → og = none) := fun h => by
      rw [HOG.out, if_neg]
      intro h2
      simp only [List.all_cons, List.all_nil, Bool.and_true, Bool.and_eq_true] at h2
      rw [SA.out, SC.out, h2.1, h2.2.1, h2.2.2] at h
      cases h
    have GS : Hid (ia = true → ic = true → og = some (gsU [ag, dg])) := fun h3 h4 => by
      have h5 := SA.out
      have h6 := SC.out
      rw [h3] at h5
      rw [h4] at h6
      have h7 := h5.symm
      have h8 := h6.symm
      simp only [Bool.and_eq_true] at h7 h8
      rw [HOG.out, if_pos (by simp only [List.all_cons, List.all_nil, Bool.and_true, Bool.and_eq_true]; exact ⟨h7.1, h7.2, h8.2⟩)]
      simp only [List.map_cons, List.map_nil, (AF.out h3).2.1, DF.out h4]
    have IR : Hid (ib = true → rightS s = true ∧ withB p q blo bhi = true ∧ (hasB p q key = true → ia = true → (⟨alo, ahi, ag, ae⟩ : Shr) = ⟨blo, bhi, bg, be⟩)) := fun h => by
      have h1 := WB.out _ (BF.out h)
      exact ⟨h1.2.1, h1.1, fun h2 h3 => h1.2.2 h2 _ (AF.out h3).2.2⟩
    clear HOG HASA HASC WB HA HB HD HIA HIB HIC BF DF
    have z0 := ups (World.block_lt_of_cell? _ _ Bb0)
    have z1 := ups (World.block_lt_of_cell? _ _ Bb2)
    go_wp2_with fail
    refine (HO1 _ F2.out).out.mono ?_
    rintro e w3 ⟨rfl, h3⟩
    have Cb0 : w3.cell? ⟨N0, 0, none⟩ = some (.int .i64 ep) := h3.cell' Bb0
    have Cb1 : w3.cell? ⟨N0, 1, none⟩ = some (.slice A n c) := h3.cell' Bb1
    have Cb2 : w3.cell? ⟨N0 + 1, 0, none⟩ = some (.string p) := h3.cell' Bb2
    have Cb3 : w3.cell? ⟨N0 + 1, 1, none⟩ = some (.string q) := h3.cell' Bb3
    have F3 : Hid (Fr Nix w w3) := F2.out.nix h3
    clear h3 z0 z1 Bb0 Bb1 Bb2 Bb3 F2
    have z0 := ups (World.block_lt_of_cell? _ _ Cb0)
    have z1 := ups (World.block_lt_of_cell? _ _ Cb2)
    go_wp2_with fail
    refine (HI _ (F3.out.alloc _)).out.mono ?_
    rintro e w4 ⟨rfl, h4⟩
    obtain ⟨N9, hN9⟩ : ∃ N9, N9 = w3.heap.size := ⟨_, rfl⟩
    have X9 : Blk w4 N9 [.string alo, .string ahi, .int .i64 ag, .int .i64 ae] 41 := by rw [hN9]; exact (Blk.new w3 [.string alo, .string ahi, .int .i64 ag, .int .i64 ae] _).mono h4 (fun h => h)
    have F34 : Fr Nix w3 w4 := ((Fr.refl _ _).alloc _).nix h4
    rw [← hN9]
    clear h4 hN9
    have Db0 : w4.cell? ⟨N0, 0, none⟩ = some (.int .i64 ep) := F34.cell' Cb0
    have Db1 : w4.cell? ⟨N0, 1, none⟩ = some (.slice A n c) := F34.cell' Cb1
    have Db2 : w4.cell? ⟨N0 + 1, 0, none⟩ = some (.string p) := F34.cell' Cb2
    have Db3 : w4.cell? ⟨N0 + 1, 1, none⟩ = some (.string q) := F34.cell' Cb3
    have Da0 : w4.cell? ⟨N9, 0, none⟩ = some (.string alo) := X9.cell 0
    have Da1 : w4.cell? ⟨N9, 1, none⟩ = some (.string ahi) := X9.cell 1
    have Da2 : w4.cell? ⟨N9, 2, none⟩ = some (.int .i64 ag) := X9.cell 2
    have Da3 : w4.cell? ⟨N9, 3, none⟩ = some (.int .i64 ae) := X9.cell 3
    have F4 : Hid (Fr Nix w w4) := F3.out.nix F34
    clear F34 z0 z1 Cb0 Cb1 Cb2 Cb3 F3 X9
    have z0 := ups (World.block_lt_of_cell? _ _ Db0)
    have z1 := ups (World.block_lt_of_cell? _ _ Db2)
    have z2 := ups (World.block_lt_of_cell? _ _ Da0)
    obtain ⟨N11, hN11⟩ : ∃ N11, N11 = w4.heap.size := ⟨_, rfl⟩
    obtain ⟨w5, hw5⟩ : ∃ w5, w5 = w4.alloc (.cells #[.string blo, .string bhi, .int .i64 bg, .int .i64 be] 41) := ⟨_, rfl⟩
    have F45 : Fr Nix w4 w5 := by rw [hw5]; exact (Fr.refl _ _).alloc _
    have X11 : Blk w5 N11 [.string blo, .string bhi, .int .i64 bg, .int .i64 be] 41 := by rw [hw5, hN11]; exact Blk.new w4 [.string blo, .string bhi, .int .i64 bg, .int .i64 be] _
    have Eb0 : w5.cell? ⟨N0, 0, none⟩ = some (.int .i64 ep) := F45.cell' Db0
    have Eb1 : w5.cell? ⟨N0, 1, none⟩ = some (.slice A n c) := F45.cell' Db1
    have Eb2 : w5.cell? ⟨N0 + 1, 0, none⟩ = some (.string p) := F45.cell' Db2
    have Eb3 : w5.cell? ⟨N0 + 1, 1, none⟩ = some (.string q) := F45.cell' Db3
    have Ea0 : w5.cell? ⟨N9, 0, none⟩ = some (.string alo) := F45.cell' Da0
    have Ea1 : w5.cell? ⟨N9, 1, none⟩ = some (.string ahi) := F45.cell' Da1
    have Ea2 : w5.cell? ⟨N9, 2, none⟩ = some (.int .i64 ag) := F45.cell' Da2
    have Ea3 : w5.cell? ⟨N9, 3, none⟩ = some (.int .i64 ae) := F45.cell' Da3
    have Ec0 : w5.cell? ⟨N11, 0, none⟩ = some (.string blo) := X11.cell 0
    have Ec1 : w5.cell? ⟨N11, 1, none⟩ = some (.string bhi) := X11.cell 1
    have Ec2 : w5.cell? ⟨N11, 2, none⟩ = some (.int .i64 bg) := X11.cell 2
    have Ec3 : w5.cell? ⟨N11, 3, none⟩ = some (.int .i64 be) := X11.cell 3
    have F5 : Hid (Fr Nix w w5) := F4.out.nix F45
    have HW5 := Lib.hid hw5.symm
    have HN11 := Lib.hid hN11.symm
    clear F45 X11 hw5 hN11
    have es : eqSh ⟨alo, ahi, ag, ae⟩ ⟨alo, ahi, ag, ae⟩ = true := (eqSh_iff _ _).2 rfl
    cases hr : rightS s with
    | false =>
      rw [hr] at SA SC
      have h1 : ia = false := SA.out
      have h3 : ic = false := SC.out
      have h2 : ib = false := by
        cases ib with
        | false => rfl
        | true => have := (IR.out rfl).1; rw [hr] at this; cases this
      subst h1 h2 h3
      go_wp2_with fail
      rw [HN11.out, HW5.out]
      clear HN11 HW5 z0 z1 z2 Db0 Db1 Db2 Db3 Da0 Da1 Da2 Da3
      refine ((HR _ F5.out).out).mono ?_
      rintro e w6 ⟨rfl, h6⟩
      rw [hr]
      have Fb0 : w6.cell? ⟨N0, 0, none⟩ = some (.int .i64 ep) := h6.cell' Eb0
      have Fb1 : w6.cell? ⟨N0, 1, none⟩ = some (.slice A n c) := h6.cell' Eb1
      have Fb2 : w6.cell? ⟨N0 + 1, 0, none⟩ = some (.string p) := h6.cell' Eb2
      have Fb3 : w6.cell? ⟨N0 + 1, 1, none⟩ = some (.string q) := h6.cell' Eb3
      have Fa0 : w6.cell? ⟨N9, 0, none⟩ = some (.string alo) := h6.cell' Ea0
      have Fa1 : w6.cell? ⟨N9, 1, none⟩ = some (.string ahi) := h6.cell' Ea1
      have Fa2 : w6.cell? ⟨N9, 2, none⟩ = some (.int .i64 ag) := h6.cell' Ea2
      have Fa3 : w6.cell? ⟨N9, 3, none⟩ = some (.int .i64 ae) := h6.cell' Ea3
      have Fc0 : w6.cell? ⟨N11, 0, none⟩ = some (.string blo) := h6.cell' Ec0
      have Fc1 : w6.cell? ⟨N11, 1, none⟩ = some (.string bhi) := h6.cell' Ec1
      have Fc2 : w6.cell? ⟨N11, 2, none⟩ = some (.int .i64 bg) := h6.cell' Ec2
      have Fc3 : w6.cell? ⟨N11, 3, none⟩ = some (.int .i64 be) := h6.cell' Ec3
      have F6 : Hid (Fr Nix w w6) := F5.out.nix h6
      clear h6 Eb0 Eb1 Eb2 Eb3 Ea0 Ea1 Ea2 Ea3 Ec0 Ec1 Ec2 Ec3
      go_wp2_with fail
      refine (HO2 _ F6.out).out.mono ?_
      rintro e v1 ⟨rfl, k1⟩
      have yb0 : v1.cell? ⟨N0, 0, none⟩ = some (.int .i64 ep) := k1.cell' Fb0
      have yb1 : v1.cell? ⟨N0, 1, none⟩ = some (.slice A n c) := k1.cell' Fb1
      have ya2 : v1.cell? ⟨N9, 2, none⟩ = some (.int .i64 ag) := k1.cell' Fa2
      have FV : Hid (Fr Nix w v1) := F6.out.nix k1
      clear k1 Fb0 Fb1 Fb2 Fb3 Fa0 Fa1 Fa2 Fa3 Fc0 Fc1 Fc2 Fc3
      have q0 := ups (World.block_lt_of_cell? _ _ yb0)
      have q1 := ups (World.block_lt_of_cell? _ _ ya2)
      have hG := GN.out (rfl)
      go_wp2_with fail
      have RG := (Own1.lit (T := 9) (f := Value.string) (v1.alloc (.cells #[.string dlo, .string dhi, .int .i64 dg, .int .i64 de] 41)) [key, other] (by simp)).rd
      simp only [World.size_alloc] at RG
      refine (HGR _ _ ((FV.out.alloc _).alloc _) RG).out.mono ?_
      rintro e v2 ⟨vg, rfl, og2, ng, fg⟩
      clear RG ng
      rw [hG]
      rw [hG] at og2
      dsimp only [Option.isSome_none, Option.getD_none] at og2 ⊢
      obtain ⟨A6, c6, e6⟩ := og2.rd.form
      subst e6
      have FE : Hid (Fr Nix w v2) := ((FV.out.alloc _).alloc _).nix fg
      clear og2 fg
      dsimp only [List.length_nil]
      go_wp2_with fail
      go_ret
      exact ⟨rfl, FE.out⟩
    | true =>
      rw [hr] at SA SC
      cases hk : keyB key with
      | false =>
        rw [hk] at SA
        have h1 : ia = false := SA.out
        subst h1
        cases ib with
        | false =>
          go_wp2_with fail
          rw [HN11.out, HW5.out]
          clear HN11 HW5 z0 z1 z2 Db0 Db1 Db2 Db3 Da0 Da1 Da2 Da3
          refine ((HR _ F5.out).out).mono ?_
          rintro e w6 ⟨rfl, h6⟩
          rw [hr]
          have Fb0 : w6.cell? ⟨N0, 0, none⟩ = some (.int .i64 ep) := h6.cell' Eb0
          have Fb1 : w6.cell? ⟨N0, 1, none⟩ = some (.slice A n c) := h6.cell' Eb1
          have Fb2 : w6.cell? ⟨N0 + 1, 0, none⟩ = some (.string p) := h6.cell' Eb2
          have Fb3 : w6.cell? ⟨N0 + 1, 1, none⟩ = some (.string q) := h6.cell' Eb3
          have Fa0 : w6.cell? ⟨N9, 0, none⟩ = some (.string alo) := h6.cell' Ea0
          have Fa1 : w6.cell? ⟨N9, 1, none⟩ = some (.string ahi) := h6.cell' Ea1
          have Fa2 : w6.cell? ⟨N9, 2, none⟩ = some (.int .i64 ag) := h6.cell' Ea2
          have Fa3 : w6.cell? ⟨N9, 3, none⟩ = some (.int .i64 ae) := h6.cell' Ea3
          have Fc0 : w6.cell? ⟨N11, 0, none⟩ = some (.string blo) := h6.cell' Ec0
          have Fc1 : w6.cell? ⟨N11, 1, none⟩ = some (.string bhi) := h6.cell' Ec1
          have Fc2 : w6.cell? ⟨N11, 2, none⟩ = some (.int .i64 bg) := h6.cell' Ec2
          have Fc3 : w6.cell? ⟨N11, 3, none⟩ = some (.int .i64 be) := h6.cell' Ec3
          have F6 : Hid (Fr Nix w w6) := F5.out.nix h6
          clear h6 Eb0 Eb1 Eb2 Eb3 Ea0 Ea1 Ea2 Ea3 Ec0 Ec1 Ec2 Ec3
          go_wp2_with fail
          refine (key_any key _).mono ?_
          rintro e w' ⟨rfl, rfl⟩
          rw [hk]
          go_wp2_with fail
          refine (HO2 _ F6.out).out.mono ?_
          rintro e v1 ⟨rfl, k1⟩
          have yb0 : v1.cell? ⟨N0, 0, none⟩ = some (.int .i64 ep) := k1.cell' Fb0
          have yb1 : v1.cell? ⟨N0, 1, none⟩ = some (.slice A n c) := k1.cell' Fb1
          have ya2 : v1.cell? ⟨N9, 2, none⟩ = some (.int .i64 ag) := k1.cell' Fa2
          have FV : Hid (Fr Nix w v1) := F6.out.nix k1
          clear k1 Fb0 Fb1 Fb2 Fb3 Fa0 Fa1 Fa2 Fa3 Fc0 Fc1 Fc2 Fc3
          have q0 := ups (World.block_lt_of_cell? _ _ yb0)
          have q1 := ups (World.block_lt_of_cell? _ _ ya2)
          have hG := GN.out (rfl)
          go_wp2_with fail
          have RG := (Own1.lit (T := 9) (f := Value.string) (v1.alloc (.cells #[.string dlo, .string dhi, .int .i64 dg, .int .i64 de] 41)) [key, other] (by simp)).rd
          simp only [World.size_alloc] at RG
          refine (HGR _ _ ((FV.out.alloc _).alloc _) RG).out.mono ?_
          rintro e v2 ⟨vg, rfl, og2, ng, fg⟩
          clear RG ng
          rw [hG]
          rw [hG] at og2
          dsimp only [Option.isSome_none, Option.getD_none] at og2 ⊢
          obtain ⟨A6, c6, e6⟩ := og2.rd.form
          subst e6
          have FE : Hid (Fr Nix w v2) := ((FV.out.alloc _).alloc _).nix fg
          clear og2 fg
          dsimp only [List.length_nil]
          go_wp2_with fail
          go_ret
          exact ⟨rfl, FE.out⟩
        | true =>
          have hI : hasB p q key = false := by unfold hasB; rw [hk]; simp
          have hW := (IR.out rfl).2.1
          go_wp2_with fail
          rw [HN11.out, HW5.out]
          clear HN11 HW5 z0 z1 z2 Db0 Db1 Db2 Db3 Da0 Da1 Da2 Da3
          refine ((HR _ F5.out).out).mono ?_
          rintro e w6 ⟨rfl, h6⟩
          rw [hr]
          have Fb0 : w6.cell? ⟨N0, 0, none⟩ = some (.int .i64 ep) := h6.cell' Eb0
          have Fb1 : w6.cell? ⟨N0, 1, none⟩ = some (.slice A n c) := h6.cell' Eb1
          have Fb2 : w6.cell? ⟨N0 + 1, 0, none⟩ = some (.string p) := h6.cell' Eb2
          have Fb3 : w6.cell? ⟨N0 + 1, 1, none⟩ = some (.string q) := h6.cell' Eb3
          have Fa0 : w6.cell? ⟨N9, 0, none⟩ = some (.string alo) := h6.cell' Ea0
          have Fa1 : w6.cell? ⟨N9, 1, none⟩ = some (.string ahi) := h6.cell' Ea1
          have Fa2 : w6.cell? ⟨N9, 2, none⟩ = some (.int .i64 ag) := h6.cell' Ea2
          have Fa3 : w6.cell? ⟨N9, 3, none⟩ = some (.int .i64 ae) := h6.cell' Ea3
          have Fc0 : w6.cell? ⟨N11, 0, none⟩ = some (.string blo) := h6.cell' Ec0
          have Fc1 : w6.cell? ⟨N11, 1, none⟩ = some (.string bhi) := h6.cell' Ec1
          have Fc2 : w6.cell? ⟨N11, 2, none⟩ = some (.int .i64 bg) := h6.cell' Ec2
          have Fc3 : w6.cell? ⟨N11, 3, none⟩ = some (.int .i64 be) := h6.cell' Ec3
          have F6 : Hid (Fr Nix w w6) := F5.out.nix h6
          clear h6 Eb0 Eb1 Eb2 Eb3 Ea0 Ea1 Ea2 Ea3 Ec0 Ec1 Ec2 Ec3
          go_wp2_with fail
          refine (key_any key _).mono ?_
          rintro e w' ⟨rfl, rfl⟩
          rw [hk]
          go_wp2_with fail
          refine (has_any p q key _).mono ?_
          rintro e w7 ⟨rfl, h7⟩
          rw [hI]
          have Gb0 : w7.cell? ⟨N0, 0, none⟩ = some (.int .i64 ep) := h7.cell' Fb0
          have Gb1 : w7.cell? ⟨N0, 1, none⟩ = some (.slice A n c) := h7.cell' Fb1
          have Gb2 : w7.cell? ⟨N0 + 1, 0, none⟩ = some (.string p) := h7.cell' Fb2
          have Gb3 : w7.cell? ⟨N0 + 1, 1, none⟩ = some (.string q) := h7.cell' Fb3
          have Ga0 : w7.cell? ⟨N9, 0, none⟩ = some (.string alo) := h7.cell' Fa0
          have Ga1 : w7.cell? ⟨N9, 1, none⟩ = some (.string ahi) := h7.cell' Fa1
          have Ga2 : w7.cell? ⟨N9, 2, none⟩ = some (.int .i64 ag) := h7.cell' Fa2
          have Ga3 : w7.cell? ⟨N9, 3, none⟩ = some (.int .i64 ae) := h7.cell' Fa3
          have Gc0 : w7.cell? ⟨N11, 0, none⟩ = some (.string blo) := h7.cell' Fc0
          have Gc1 : w7.cell? ⟨N11, 1, none⟩ = some (.string bhi) := h7.cell' Fc1
          have Gc2 : w7.cell? ⟨N11, 2, none⟩ = some (.int .i64 bg) := h7.cell' Fc2
          have Gc3 : w7.cell? ⟨N11, 3, none⟩ = some (.int .i64 be) := h7.cell' Fc3
          have F7 : Hid (Fr Nix w w7) := F6.out.nix h7
          clear h7 Fb0 Fb1 Fb2 Fb3 Fa0 Fa1 Fa2 Fa3 Fc0 Fc1 Fc2 Fc3
          go_wp2_with fail
          refine (within_any p q blo bhi _).mono ?_
          rintro e w8 ⟨rfl, h8⟩
          rw [hW]
          have Hb0 : w8.cell? ⟨N0, 0, none⟩ = some (.int .i64 ep) := h8.cell' Gb0
          have Hb1 : w8.cell? ⟨N0, 1, none⟩ = some (.slice A n c) := h8.cell' Gb1
          have Hb2 : w8.cell? ⟨N0 + 1, 0, none⟩ = some (.string p) := h8.cell' Gb2
          have Hb3 : w8.cell? ⟨N0 + 1, 1, none⟩ = some (.string q) := h8.cell' Gb3
          have Ha0 : w8.cell? ⟨N9, 0, none⟩ = some (.string alo) := h8.cell' Ga0
          have Ha1 : w8.cell? ⟨N9, 1, none⟩ = some (.string ahi) := h8.cell' Ga1
          have Ha2 : w8.cell? ⟨N9, 2, none⟩ = some (.int .i64 ag) := h8.cell' Ga2
          have Ha3 : w8.cell? ⟨N9, 3, none⟩ = some (.int .i64 ae) := h8.cell' Ga3
          have Hc0 : w8.cell? ⟨N11, 0, none⟩ = some (.string blo) := h8.cell' Gc0
          have Hc1 : w8.cell? ⟨N11, 1, none⟩ = some (.string bhi) := h8.cell' Gc1
          have Hc2 : w8.cell? ⟨N11, 2, none⟩ = some (.int .i64 bg) := h8.cell' Gc2
          have Hc3 : w8.cell? ⟨N11, 3, none⟩ = some (.int .i64 be) := h8.cell' Gc3
          have F8 : Hid (Fr Nix w w8) := F7.out.nix h8
          clear h8 Gb0 Gb1 Gb2 Gb3 Ga0 Ga1 Ga2 Ga3 Gc0 Gc1 Gc2 Gc3
          go_wp2_with fail
          refine (HO2 _ F8.out).out.mono ?_
          rintro e v1 ⟨rfl, k1⟩
          have yb0 : v1.cell? ⟨N0, 0, none⟩ = some (.int .i64 ep) := k1.cell' Hb0
          have yb1 : v1.cell? ⟨N0, 1, none⟩ = some (.slice A n c) := k1.cell' Hb1
          have ya2 : v1.cell? ⟨N9, 2, none⟩ = some (.int .i64 ag) := k1.cell' Ha2
          have FV : Hid (Fr Nix w v1) := F8.out.nix k1
          clear k1 Hb0 Hb1 Hb2 Hb3 Ha0 Ha1 Ha2 Ha3 Hc0 Hc1 Hc2 Hc3
          have q0 := ups (World.block_lt_of_cell? _ _ yb0)
          have q1 := ups (World.block_lt_of_cell? _ _ ya2)
          have hG := GN.out (rfl)
          go_wp2_with fail
          have RG := (Own1.lit (T := 9) (f := Value.string) (v1.alloc (.cells #[.string dlo, .string dhi, .int .i64 dg, .int .i64 de] 41)) [key, other] (by simp)).rd
          simp only [World.size_alloc] at RG
          refine (HGR _ _ ((FV.out.alloc _).alloc _) RG).out.mono ?_
          rintro e v2 ⟨vg, rfl, og2, ng, fg⟩
          clear RG ng
          rw [hG]
          rw [hG] at og2
          dsimp only [Option.isSome_none, Option.getD_none] at og2 ⊢
          obtain ⟨A6, c6, e6⟩ := og2.rd.form
          subst e6
          have FE : Hid (Fr Nix w v2) := ((FV.out.alloc _).alloc _).nix fg
          clear og2 fg
          dsimp only [List.length_nil]
          go_wp2_with fail
          go_ret
          exact ⟨rfl, FE.out⟩
      | true =>
        rw [hk] at SA
        have h1 : ia = true := SA.out
        subst h1
        have hA := (AF.out rfl).1
        cases ib with
        | false =>
          go_wp2_with fail
          rw [HN11.out, HW5.out]
          clear HN11 HW5 z0 z1 z2 Db0 Db1 Db2 Db3 Da0 Da1 Da2 Da3
          refine (has_any alo ahi key _).mono ?_
          rintro e w6 ⟨rfl, h6⟩
          rw [hA]
          have Fb0 : w6.cell? ⟨N0, 0, none⟩ = some (.int .i64 ep) := h6.cell' Eb0
          have Fb1 : w6.cell? ⟨N0, 1, none⟩ = some (.slice A n c) := h6.cell' Eb1
          have Fb2 : w6.cell? ⟨N0 + 1, 0, none⟩ = some (.string p) := h6.cell' Eb2
          have Fb3 : w6.cell? ⟨N0 + 1, 1, none⟩ = some (.string q) := h6.cell' Eb3
          have Fa0 : w6.cell? ⟨N9, 0, none⟩ = some (.string alo) := h6.cell' Ea0
          have Fa1 : w6.cell? ⟨N9, 1, none⟩ = some (.string ahi) := h6.cell' Ea1
          have Fa2 : w6.cell? ⟨N9, 2, none⟩ = some (.int .i64 ag) := h6.cell' Ea2
          have Fa3 : w6.cell? ⟨N9, 3, none⟩ = some (.int .i64 ae) := h6.cell' Ea3
          have Fc0 : w6.cell? ⟨N11, 0, none⟩ = some (.string blo) := h6.cell' Ec0
          have Fc1 : w6.cell? ⟨N11, 1, none⟩ = some (.string bhi) := h6.cell' Ec1
          have Fc2 : w6.cell? ⟨N11, 2, none⟩ = some (.int .i64 bg) := h6.cell' Ec2
          have Fc3 : w6.cell? ⟨N11, 3, none⟩ = some (.int .i64 be) := h6.cell' Ec3
          have F6 : Hid (Fr Nix w w6) := F5.out.nix h6
          clear h6 Eb0 Eb1 Eb2 Eb3 Ea0 Ea1 Ea2 Ea3 Ec0 Ec1 Ec2 Ec3
          go_wp2_with fail
          refine ((HR _ F6.out).out).mono ?_
          rintro e w7 ⟨rfl, h7⟩
          rw [hr]
          have Gb0 : w7.cell? ⟨N0, 0, none⟩ = some (.int .i64 ep) := h7.cell' Fb0
          have Gb1 : w7.cell? ⟨N0, 1, none⟩ = some (.slice A n c) := h7.cell' Fb1
          have Gb2 : w7.cell? ⟨N0 + 1, 0, none⟩ = some (.string p) := h7.cell' Fb2
          have Gb3 : w7.cell? ⟨N0 + 1, 1, none⟩ = some (.string q) := h7.cell' Fb3
          have Ga0 : w7.cell? ⟨N9, 0, none⟩ = some (.string alo) := h7.cell' Fa0
          have Ga1 : w7.cell? ⟨N9, 1, none⟩ = some (.string ahi) := h7.cell' Fa1
          have Ga2 : w7.cell? ⟨N9, 2, none⟩ = some (.int .i64 ag) := h7.cell' Fa2
          have Ga3 : w7.cell? ⟨N9, 3, none⟩ = some (.int .i64 ae) := h7.cell' Fa3
          have Gc0 : w7.cell? ⟨N11, 0, none⟩ = some (.string blo) := h7.cell' Fc0
          have Gc1 : w7.cell? ⟨N11, 1, none⟩ = some (.string bhi) := h7.cell' Fc1
          have Gc2 : w7.cell? ⟨N11, 2, none⟩ = some (.int .i64 bg) := h7.cell' Fc2
          have Gc3 : w7.cell? ⟨N11, 3, none⟩ = some (.int .i64 be) := h7.cell' Fc3
          have F7 : Hid (Fr Nix w w7) := F6.out.nix h7
          clear h7 Fb0 Fb1 Fb2 Fb3 Fa0 Fa1 Fa2 Fa3 Fc0 Fc1 Fc2 Fc3
          go_wp2_with fail
          refine (key_any key _).mono ?_
          rintro e w' ⟨rfl, rfl⟩
          rw [hk]
          go_wp2_with fail
          refine (HO2 _ F7.out).out.mono ?_
          rintro e v1 ⟨rfl, k1⟩
          have yb0 : v1.cell? ⟨N0, 0, none⟩ = some (.int .i64 ep) := k1.cell' Gb0
          have yb1 : v1.cell? ⟨N0, 1, none⟩ = some (.slice A n c) := k1.cell' Gb1
          have ya2 : v1.cell? ⟨N9, 2, none⟩ = some (.int .i64 ag) := k1.cell' Ga2
          have FV : Hid (Fr Nix w v1) := F7.out.nix k1
          clear k1 Gb0 Gb1 Gb2 Gb3 Ga0 Ga1 Ga2 Ga3 Gc0 Gc1 Gc2 Gc3
          have q0 := ups (World.block_lt_of_cell? _ _ yb0)
          have q1 := ups (World.block_lt_of_cell? _ _ ya2)
          cases ic with
          | false =>
            have hG := GN.out (rfl)
            go_wp2_with fail
            have RG := (Own1.lit (T := 9) (f := Value.string) (v1.alloc (.cells #[.string dlo, .string dhi, .int .i64 dg, .int .i64 de] 41)) [key, other] (by simp)).rd
            simp only [World.size_alloc] at RG
            refine (HGR _ _ ((FV.out.alloc _).alloc _) RG).out.mono ?_
            rintro e v2 ⟨vg, rfl, og2, ng, fg⟩
            clear RG ng
            rw [hG]
            rw [hG] at og2
            dsimp only [Option.isSome_none, Option.getD_none] at og2 ⊢
            obtain ⟨A6, c6, e6⟩ := og2.rd.form
            subst e6
            have FE : Hid (Fr Nix w v2) := ((FV.out.alloc _).alloc _).nix fg
            clear og2 fg
            dsimp only [List.length_nil]
            go_wp2_with fail
            go_ret
            exact ⟨rfl, FE.out⟩
          | true =>
            have hG := GS.out (by first | rfl | trivial) (by first | rfl | trivial)
            go_wp2_with fail
            have RG := (Own1.lit (T := 9) (f := Value.string) (v1.alloc (.cells #[.string dlo, .string dhi, .int .i64 dg, .int .i64 de] 41)) [key, other] (by simp)).rd
            simp only [World.size_alloc] at RG
            refine (HGR _ _ ((FV.out.alloc _).alloc _) RG).out.mono ?_
            rintro e v2 ⟨vg, rfl, og2, ng, fg⟩
            clear RG ng
            rw [hG]
            rw [hG] at og2
            dsimp only [Option.isSome_some, Option.getD_some] at og2 ⊢
            have hd2 : v2.cell? ⟨v1.heap.size, 2, none⟩ = some (.int .i64 dg) := fg.cell' (by go_simp)
            have ha2 : v2.cell? ⟨N9, 2, none⟩ = some (.int .i64 ag) := fg.cell' (by go_simp)
            have FE : Hid (Fr Nix w v2) := ((FV.out.alloc _).alloc _).nix fg
            clear fg q0 q1 yb0 yb1 ya2 hG
            rw [gsU_two] at og2
            obtain ⟨M1, hM1⟩ : ∃ M1, M1 = v1.heap.size := ⟨_, rfl⟩
            rw [← hM1] at hd2 ⊢
            clear hM1
            rcases Int.lt_trichotomy ag dg with hlt | heq | hgt
            · rw [if_pos hlt] at og2
              obtain ⟨_, A', c', e, hrd⟩ := og2.rd
              rcases hrd with h0 | ⟨kb, koff, rfl, hkb, hc⟩
              · exact absurd h0 (by simp)
              subst e
              have o0 : v2.cell? ⟨kb, koff, none⟩ = some (.int .i64 ag) := hc 0 (by simp)
              have o1 : v2.cell? ⟨kb, koff + 1, none⟩ = some (.int .i64 dg) := hc 1 (by simp)
              clear hc og2
              dsimp only [List.length_cons, List.length_nil, Nat.zero_add, Nat.reduceAdd]
              have m0 : ¬ dg < ag := by omega
              have m1 : ¬ ag = dg := by omega
              have m2 : ¬ dg = ag := by omega
              have m3 : ag ≤ dg := by omega
              have m4 : ¬ dg ≤ ag := by omega
              have n0 : min ag dg = ag := by omega
              have n1 : max ag dg = dg := by omega
              have n2 : decide (ag = dg) = false := decide_eq_false (by omega)
              go_wp2_with fail
              go_quiet (fail)
              go_wp2_with fail
              go_ret
              have n3 : (ag == dg) = false := beq_false_of_ne (by omega)
              refine ⟨?_, FE.out.drewN _⟩
              show Ending.returned (.bool (!(ag == dg))) = _
              rw [n3]
              rfl
            · rw [if_neg (by omega), if_neg (by omega)] at og2
              obtain ⟨_, A', c', e, hrd⟩ := og2.rd
              rcases hrd with h0 | ⟨kb, koff, rfl, hkb, hc⟩
              · exact absurd h0 (by simp)
              subst e
              have o0 : v2.cell? ⟨kb, koff, none⟩ = some (.int .i64 ag) := hc 0 (by simp)
              clear hc og2
              dsimp only [List.length_cons, List.length_nil, Nat.zero_add, Nat.reduceAdd]
              subst heq
              go_wp2_with fail
              go_quiet (fail)
              go_wp2_with fail
              go_ret
              exact ⟨rfl, FE.out.drewN _⟩
            · rw [if_neg (by omega), if_pos hgt] at og2
              obtain ⟨_, A', c', e, hrd⟩ := og2.rd
              rcases hrd with h0 | ⟨kb, koff, rfl, hkb, hc⟩
              · exact absurd h0 (by simp)
              subst e
              have o0 : v2.cell? ⟨kb, koff, none⟩ = some (.int .i64 dg) := hc 0 (by simp)
              have o1 : v2.cell? ⟨kb, koff + 1, none⟩ = some (.int .i64 ag) := hc 1 (by simp)
              clear hc og2
              dsimp only [List.length_cons, List.length_nil, Nat.zero_add, Nat.reduceAdd]
              have m0 : ¬ ag < dg := by omega
              have m1 : ¬ dg = ag := by omega
              have m2 : ¬ ag = dg := by omega
              have m3 : dg ≤ ag := by omega
              have m4 : ¬ ag ≤ dg := by omega
              have n0 : min ag dg = dg := by omega
              have n1 : max ag dg = ag := by omega
              have n2 : decide (ag = dg) = false := decide_eq_false (by omega)
              go_wp2_with fail
              go_quiet (fail)
              go_wp2_with fail
              go_ret
              have n3 : (ag == dg) = false := beq_false_of_ne (by omega)
              refine ⟨?_, FE.out.drewN _⟩
              show Ending.returned (.bool (!(ag == dg))) = _
              rw [n3]
              rfl
        | true =>
          have hW := (IR.out rfl).2.1
          cases hI : hasB p q key with
          | false =>
            go_wp2_with fail
            rw [HN11.out, HW5.out]
            clear HN11 HW5 z0 z1 z2 Db0 Db1 Db2 Db3 Da0 Da1 Da2 Da3
            refine (has_any alo ahi key _).mono ?_
            rintro e w6 ⟨rfl, h6⟩
            rw [hA]
            have Fb0 : w6.cell? ⟨N0, 0, none⟩ = some (.int .i64 ep) := h6.cell' Eb0
            have Fb1 : w6.cell? ⟨N0, 1, none⟩ = some (.slice A n c) := h6.cell' Eb1
            have Fb2 : w6.cell? ⟨N0 + 1, 0, none⟩ = some (.string p) := h6.cell' Eb2
            have Fb3 : w6.cell? ⟨N0 + 1, 1, none⟩ = some (.string q) := h6.cell' Eb3
            have Fa0 : w6.cell? ⟨N9, 0, none⟩ = some (.string alo) := h6.cell' Ea0
            have Fa1 : w6.cell? ⟨N9, 1, none⟩ = some (.string ahi) := h6.cell' Ea1
            have Fa2 : w6.cell? ⟨N9, 2, none⟩ = some (.int .i64 ag) := h6.cell' Ea2
            have Fa3 : w6.cell? ⟨N9, 3, none⟩ = some (.int .i64 ae) := h6.cell' Ea3
            have Fc0 : w6.cell? ⟨N11, 0, none⟩ = some (.string blo) := h6.cell' Ec0
            have Fc1 : w6.cell? ⟨N11, 1, none⟩ = some (.string bhi) := h6.cell' Ec1
            have Fc2 : w6.cell? ⟨N11, 2, none⟩ = some (.int .i64 bg) := h6.cell' Ec2
            have Fc3 : w6.cell? ⟨N11, 3, none⟩ = some (.int .i64 be) := h6.cell' Ec3
            have F6 : Hid (Fr Nix w w6) := F5.out.nix h6
            clear h6 Eb0 Eb1 Eb2 Eb3 Ea0 Ea1 Ea2 Ea3 Ec0 Ec1 Ec2 Ec3
            go_wp2_with fail
            refine ((HR _ F6.out).out).mono ?_
            rintro e w7 ⟨rfl, h7⟩
            rw [hr]
            have Gb0 : w7.cell? ⟨N0, 0, none⟩ = some (.int .i64 ep) := h7.cell' Fb0
            have Gb1 : w7.cell? ⟨N0, 1, none⟩ = some (.slice A n c) := h7.cell' Fb1
            have Gb2 : w7.cell? ⟨N0 + 1, 0, none⟩ = some (.string p) := h7.cell' Fb2
            have Gb3 : w7.cell? ⟨N0 + 1, 1, none⟩ = some (.string q) := h7.cell' Fb3
            have Ga0 : w7.cell? ⟨N9, 0, none⟩ = some (.string alo) := h7.cell' Fa0
            have Ga1 : w7.cell? ⟨N9, 1, none⟩ = some (.string ahi) := h7.cell' Fa1
            have Ga2 : w7.cell? ⟨N9, 2, none⟩ = some (.int .i64 ag) := h7.cell' Fa2
            have Ga3 : w7.cell? ⟨N9, 3, none⟩ = some (.int .i64 ae) := h7.cell' Fa3
            have Gc0 : w7.cell? ⟨N11, 0, none⟩ = some (.string blo) := h7.cell' Fc0
            have Gc1 : w7.cell? ⟨N11, 1, none⟩ = some (.string bhi) := h7.cell' Fc1
            have Gc2 : w7.cell? ⟨N11, 2, none⟩ = some (.int .i64 bg) := h7.cell' Fc2
            have Gc3 : w7.cell? ⟨N11, 3, none⟩ = some (.int .i64 be) := h7.cell' Fc3
            have F7 : Hid (Fr Nix w w7) := F6.out.nix h7
            clear h7 Fb0 Fb1 Fb2 Fb3 Fa0 Fa1 Fa2 Fa3 Fc0 Fc1 Fc2 Fc3
            go_wp2_with fail
            refine (key_any key _).mono ?_
            rintro e w' ⟨rfl, rfl⟩
            rw [hk]
            go_wp2_with fail
            refine (has_any p q key _).mono ?_
            rintro e w8 ⟨rfl, h8⟩
            rw [hI]
            have Hb0 : w8.cell? ⟨N0, 0, none⟩ = some (.int .i64 ep) := h8.cell' Gb0
            have Hb1 : w8.cell? ⟨N0, 1, none⟩ = some (.slice A n c) := h8.cell' Gb1
            have Hb2 : w8.cell? ⟨N0 + 1, 0, none⟩ = some (.string p) := h8.cell' Gb2
            have Hb3 : w8.cell? ⟨N0 + 1, 1, none⟩ = some (.string q) := h8.cell' Gb3
            have Ha0 : w8.cell? ⟨N9, 0, none⟩ = some (.string alo) := h8.cell' Ga0
            have Ha1 : w8.cell? ⟨N9, 1, none⟩ = some (.string ahi) := h8.cell' Ga1
            have Ha2 : w8.cell? ⟨N9, 2, none⟩ = some (.int .i64 ag) := h8.cell' Ga2
            have Ha3 : w8.cell? ⟨N9, 3, none⟩ = some (.int .i64 ae) := h8.cell' Ga3
            have Hc0 : w8.cell? ⟨N11, 0, none⟩ = some (.string blo) := h8.cell' Gc0
            have Hc1 : w8.cell? ⟨N11, 1, none⟩ = some (.string bhi) := h8.cell' Gc1
            have Hc2 : w8.cell? ⟨N11, 2, none⟩ = some (.int .i64 bg) := h8.cell' Gc2
            have Hc3 : w8.cell? ⟨N11, 3, none⟩ = some (.int .i64 be) := h8.cell' Gc3
            have F8 : Hid (Fr Nix w w8) := F7.out.nix h8
            clear h8 Gb0 Gb1 Gb2 Gb3 Ga0 Ga1 Ga2 Ga3 Gc0 Gc1 Gc2 Gc3
            go_wp2_with fail
            refine (within_any p q blo bhi _).mono ?_
            rintro e w9 ⟨rfl, h9⟩
            rw [hW]
            have Ib0 : w9.cell? ⟨N0, 0, none⟩ = some (.int .i64 ep) := h9.cell' Hb0
            have Ib1 : w9.cell? ⟨N0, 1, none⟩ = some (.slice A n c) := h9.cell' Hb1
            have Ib2 : w9.cell? ⟨N0 + 1, 0, none⟩ = some (.string p) := h9.cell' Hb2
            have Ib3 : w9.cell? ⟨N0 + 1, 1, none⟩ = some (.string q) := h9.cell' Hb3
            have Ia0 : w9.cell? ⟨N9, 0, none⟩ = some (.string alo) := h9.cell' Ha0
            have Ia1 : w9.cell? ⟨N9, 1, none⟩ = some (.string ahi) := h9.cell' Ha1
            have Ia2 : w9.cell? ⟨N9, 2, none⟩ = some (.int .i64 ag) := h9.cell' Ha2
            have Ia3 : w9.cell? ⟨N9, 3, none⟩ = some (.int .i64 ae) := h9.cell' Ha3
            have Ic0 : w9.cell? ⟨N11, 0, none⟩ = some (.string blo) := h9.cell' Hc0
            have Ic1 : w9.cell? ⟨N11, 1, none⟩ = some (.string bhi) := h9.cell' Hc1
            have Ic2 : w9.cell? ⟨N11, 2, none⟩ = some (.int .i64 bg) := h9.cell' Hc2
            have Ic3 : w9.cell? ⟨N11, 3, none⟩ = some (.int .i64 be) := h9.cell' Hc3
            have F9 : Hid (Fr Nix w w9) := F8.out.nix h9
            clear h9 Hb0 Hb1 Hb2 Hb3 Ha0 Ha1 Ha2 Ha3 Hc0 Hc1 Hc2 Hc3
            go_wp2_with fail
            refine (HO2 _ F9.out).out.mono ?_
            rintro e v1 ⟨rfl, k1⟩
            have yb0 : v1.cell? ⟨N0, 0, none⟩ = some (.int .i64 ep) := k1.cell' Ib0
            have yb1 : v1.cell? ⟨N0, 1, none⟩ = some (.slice A n c) := k1.cell' Ib1
            have ya2 : v1.cell? ⟨N9, 2, none⟩ = some (.int .i64 ag) := k1.cell' Ia2
            have FV : Hid (Fr Nix w v1) := F9.out.nix k1
            clear k1 Ib0 Ib1 Ib2 Ib3 Ia0 Ia1 Ia2 Ia3 Ic0 Ic1 Ic2 Ic3
            have q0 := ups (World.block_lt_of_cell? _ _ yb0)
            have q1 := ups (World.block_lt_of_cell? _ _ ya2)
            cases ic with
            | false =>
              have hG := GN.out (rfl)
              go_wp2_with fail
              have RG := (Own1.lit (T := 9) (f := Value.string) (v1.alloc (.cells #[.string dlo, .string dhi, .int .i64 dg, .int .i64 de] 41)) [key, other] (by simp)).rd
              simp only [World.size_alloc] at RG
              refine (HGR _ _ ((FV.out.alloc _).alloc _) RG).out.mono ?_
              rintro e v2 ⟨vg, rfl, og2, ng, fg⟩
              clear RG ng
              rw [hG]
              rw [hG] at og2
              dsimp only [Option.isSome_none, Option.getD_none] at og2 ⊢
              obtain ⟨A6, c6, e6⟩ := og2.rd.form
              subst e6
              have FE : Hid (Fr Nix w v2) := ((FV.out.alloc _).alloc _).nix fg
              clear og2 fg
              dsimp only [List.length_nil]
              go_wp2_with fail
              go_ret
              exact ⟨rfl, FE.out⟩
            | true =>
              have hG := GS.out (by first | rfl | trivial) (by first | rfl | trivial)
              go_wp2_with fail
              have RG := (Own1.lit (T := 9) (f := Value.string) (v1.alloc (.cells #[.string dlo, .string dhi, .int .i64 dg, .int .i64 de] 41)) [key, other] (by simp)).rd
              simp only [World.size_alloc] at RG
              refine (HGR _ _ ((FV.out.alloc _).alloc _) RG).out.mono ?_
              rintro e v2 ⟨vg, rfl, og2, ng, fg⟩
              clear RG ng
              rw [hG]
              rw [hG] at og2
              dsimp only [Option.isSome_some, Option.getD_some] at og2 ⊢
              have hd2 : v2.cell? ⟨v1.heap.size, 2, none⟩ = some (.int .i64 dg) := fg.cell' (by go_simp)
              have ha2 : v2.cell? ⟨N9, 2, none⟩ = some (.int .i64 ag) := fg.cell' (by go_simp)
              have FE : Hid (Fr Nix w v2) := ((FV.out.alloc _).alloc _).nix fg
              clear fg q0 q1 yb0 yb1 ya2 hG
              rw [gsU_two] at og2
              obtain ⟨M1, hM1⟩ : ∃ M1, M1 = v1.heap.size := ⟨_, rfl⟩
              rw [← hM1] at hd2 ⊢
              clear hM1
              rcases Int.lt_trichotomy ag dg with hlt | heq | hgt
              · rw [if_pos hlt] at og2
                obtain ⟨_, A', c', e, hrd⟩ := og2.rd
                rcases hrd with h0 | ⟨kb, koff, rfl, hkb, hc⟩
                · exact absurd h0 (by simp)
                subst e
                have o0 : v2.cell? ⟨kb, koff, none⟩ = some (.int .i64 ag) := hc 0 (by simp)
                have o1 : v2.cell? ⟨kb, koff + 1, none⟩ = some (.int .i64 dg) := hc 1 (by simp)
                clear hc og2
                dsimp only [List.length_cons, List.length_nil, Nat.zero_add, Nat.reduceAdd]
                have m0 : ¬ dg < ag := by omega
                have m1 : ¬ ag = dg := by omega
                have m2 : ¬ dg = ag := by omega
                have m3 : ag ≤ dg := by omega
                have m4 : ¬ dg ≤ ag := by omega
                have n0 : min ag dg = ag := by omega
                have n1 : max ag dg = dg := by omega
                have n2 : decide (ag = dg) = false := decide_eq_false (by omega)
                go_wp2_with fail
                go_quiet (fail)
                go_wp2_with fail
                go_ret
                have n3 : (ag == dg) = false := beq_false_of_ne (by omega)
                refine ⟨?_, FE.out.drewN _⟩
                show Ending.returned (.bool (!(ag == dg))) = _
                rw [n3]
                rfl
              · rw [if_neg (by omega), if_neg (by omega)] at og2
                obtain ⟨_, A', c', e, hrd⟩ := og2.rd
                rcases hrd with h0 | ⟨kb, koff, rfl, hkb, hc⟩
                · exact absurd h0 (by simp)
                subst e
                have o0 : v2.cell? ⟨kb, koff, none⟩ = some (.int .i64 ag) := hc 0 (by simp)
                clear hc og2
                dsimp only [List.length_cons, List.length_nil, Nat.zero_add, Nat.reduceAdd]
                subst heq
                go_wp2_with fail
                go_quiet (fail)
                go_wp2_with fail
                go_ret
                exact ⟨rfl, FE.out.drewN _⟩
              · rw [if_neg (by omega), if_pos hgt] at og2
                obtain ⟨_, A', c', e, hrd⟩ := og2.rd
                rcases hrd with h0 | ⟨kb, koff, rfl, hkb, hc⟩
                · exact absurd h0 (by simp)
                subst e
                have o0 : v2.cell? ⟨kb, koff, none⟩ = some (.int .i64 dg) := hc 0 (by simp)
                have o1 : v2.cell? ⟨kb, koff + 1, none⟩ = some (.int .i64 ag) := hc 1 (by simp)
                clear hc og2
                dsimp only [List.length_cons, List.length_nil, Nat.zero_add, Nat.reduceAdd]
                have m0 : ¬ ag < dg := by omega
                have m1 : ¬ dg = ag := by omega
                have m2 : ¬ ag = dg := by omega
                have m3 : dg ≤ ag := by omega
                have m4 : ¬ ag ≤ dg := by omega
                have n0 : min ag dg = dg := by omega
                have n1 : max ag dg = ag := by omega
                have n2 : decide (ag = dg) = false := decide_eq_false (by omega)
                go_wp2_with fail
                go_quiet (fail)
                go_wp2_with fail
                go_ret
                have n3 : (ag == dg) = false := beq_false_of_ne (by omega)
                refine ⟨?_, FE.out.drewN _⟩
                show Ending.returned (.bool (!(ag == dg))) = _
                rw [n3]
                rfl
          | true =>
            have hab := (IR.out rfl).2.2 hI rfl
            simp only [Shr.mk.injEq] at hab
            obtain ⟨g1, g2, g3, g4⟩ := hab
            subst g1 g2 g3 g4
            go_wp2_with fail
            rw [HN11.out, HW5.out]
            clear HN11 HW5 z0 z1 z2 Db0 Db1 Db2 Db3 Da0 Da1 Da2 Da3
            refine (has_any alo ahi key _).mono ?_
            rintro e w6 ⟨rfl, h6⟩
            rw [hA]
            have Fb0 : w6.cell? ⟨N0, 0, none⟩ = some (.int .i64 ep) := h6.cell' Eb0
            have Fb1 : w6.cell? ⟨N0, 1, none⟩ = some (.slice A n c) := h6.cell' Eb1
            have Fb2 : w6.cell? ⟨N0 + 1, 0, none⟩ = some (.string p) := h6.cell' Eb2
            have Fb3 : w6.cell? ⟨N0 + 1, 1, none⟩ = some (.string q) := h6.cell' Eb3
            have Fa0 : w6.cell? ⟨N9, 0, none⟩ = some (.string alo) := h6.cell' Ea0
            have Fa1 : w6.cell? ⟨N9, 1, none⟩ = some (.string ahi) := h6.cell' Ea1
            have Fa2 : w6.cell? ⟨N9, 2, none⟩ = some (.int .i64 ag) := h6.cell' Ea2
            have Fa3 : w6.cell? ⟨N9, 3, none⟩ = some (.int .i64 ae) := h6.cell' Ea3
            have Fc0 : w6.cell? ⟨N11, 0, none⟩ = some (.string alo) := h6.cell' Ec0
            have Fc1 : w6.cell? ⟨N11, 1, none⟩ = some (.string ahi) := h6.cell' Ec1
            have Fc2 : w6.cell? ⟨N11, 2, none⟩ = some (.int .i64 ag) := h6.cell' Ec2
            have Fc3 : w6.cell? ⟨N11, 3, none⟩ = some (.int .i64 ae) := h6.cell' Ec3
            have F6 : Hid (Fr Nix w w6) := F5.out.nix h6
            clear h6 Eb0 Eb1 Eb2 Eb3 Ea0 Ea1 Ea2 Ea3 Ec0 Ec1 Ec2 Ec3
            go_wp2_with fail
            refine ((HR _ F6.out).out).mono ?_
            rintro e w7 ⟨rfl, h7⟩
            rw [hr]
            have Gb0 : w7.cell? ⟨N0, 0, none⟩ = some (.int .i64 ep) := h7.cell' Fb0
            have Gb1 : w7.cell? ⟨N0, 1, none⟩ = some (.slice A n c) := h7.cell' Fb1
            have Gb2 : w7.cell? ⟨N0 + 1, 0, none⟩ = some (.string p) := h7.cell' Fb2
            have Gb3 : w7.cell? ⟨N0 + 1, 1, none⟩ = some (.string q) := h7.cell' Fb3
            have Ga0 : w7.cell? ⟨N9, 0, none⟩ = some (.string alo) := h7.cell' Fa0
            have Ga1 : w7.cell? ⟨N9, 1, none⟩ = some (.string ahi) := h7.cell' Fa1
            have Ga2 : w7.cell? ⟨N9, 2, none⟩ = some (.int .i64 ag) := h7.cell' Fa2
            have Ga3 : w7.cell? ⟨N9, 3, none⟩ = some (.int .i64 ae) := h7.cell' Fa3
            have Gc0 : w7.cell? ⟨N11, 0, none⟩ = some (.string alo) := h7.cell' Fc0
            have Gc1 : w7.cell? ⟨N11, 1, none⟩ = some (.string ahi) := h7.cell' Fc1
            have Gc2 : w7.cell? ⟨N11, 2, none⟩ = some (.int .i64 ag) := h7.cell' Fc2
            have Gc3 : w7.cell? ⟨N11, 3, none⟩ = some (.int .i64 ae) := h7.cell' Fc3
            have F7 : Hid (Fr Nix w w7) := F6.out.nix h7
            clear h7 Fb0 Fb1 Fb2 Fb3 Fa0 Fa1 Fa2 Fa3 Fc0 Fc1 Fc2 Fc3
            go_wp2_with fail
            refine (key_any key _).mono ?_
            rintro e w' ⟨rfl, rfl⟩
            rw [hk]
            go_wp2_with fail
            refine (has_any p q key _).mono ?_
            rintro e w8 ⟨rfl, h8⟩
            rw [hI]
            have Hb0 : w8.cell? ⟨N0, 0, none⟩ = some (.int .i64 ep) := h8.cell' Gb0
            have Hb1 : w8.cell? ⟨N0, 1, none⟩ = some (.slice A n c) := h8.cell' Gb1
            have Hb2 : w8.cell? ⟨N0 + 1, 0, none⟩ = some (.string p) := h8.cell' Gb2
            have Hb3 : w8.cell? ⟨N0 + 1, 1, none⟩ = some (.string q) := h8.cell' Gb3
            have Ha0 : w8.cell? ⟨N9, 0, none⟩ = some (.string alo) := h8.cell' Ga0
            have Ha1 : w8.cell? ⟨N9, 1, none⟩ = some (.string ahi) := h8.cell' Ga1
            have Ha2 : w8.cell? ⟨N9, 2, none⟩ = some (.int .i64 ag) := h8.cell' Ga2
            have Ha3 : w8.cell? ⟨N9, 3, none⟩ = some (.int .i64 ae) := h8.cell' Ga3
            have Hc0 : w8.cell? ⟨N11, 0, none⟩ = some (.string alo) := h8.cell' Gc0
            have Hc1 : w8.cell? ⟨N11, 1, none⟩ = some (.string ahi) := h8.cell' Gc1
            have Hc2 : w8.cell? ⟨N11, 2, none⟩ = some (.int .i64 ag) := h8.cell' Gc2
            have Hc3 : w8.cell? ⟨N11, 3, none⟩ = some (.int .i64 ae) := h8.cell' Gc3
            have F8 : Hid (Fr Nix w w8) := F7.out.nix h8
            clear h8 Gb0 Gb1 Gb2 Gb3 Ga0 Ga1 Ga2 Ga3 Gc0 Gc1 Gc2 Gc3
            go_wp2_with fail
            refine (within_any p q alo ahi _).mono ?_
            rintro e w9 ⟨rfl, h9⟩
            rw [hW]
            have Ib0 : w9.cell? ⟨N0, 0, none⟩ = some (.int .i64 ep) := h9.cell' Hb0
            have Ib1 : w9.cell? ⟨N0, 1, none⟩ = some (.slice A n c) := h9.cell' Hb1
            have Ib2 : w9.cell? ⟨N0 + 1, 0, none⟩ = some (.string p) := h9.cell' Hb2
            have Ib3 : w9.cell? ⟨N0 + 1, 1, none⟩ = some (.string q) := h9.cell' Hb3
            have Ia0 : w9.cell? ⟨N9, 0, none⟩ = some (.string alo) := h9.cell' Ha0
            have Ia1 : w9.cell? ⟨N9, 1, none⟩ = some (.string ahi) := h9.cell' Ha1
            have Ia2 : w9.cell? ⟨N9, 2, none⟩ = some (.int .i64 ag) := h9.cell' Ha2
            have Ia3 : w9.cell? ⟨N9, 3, none⟩ = some (.int .i64 ae) := h9.cell' Ha3
            have Ic0 : w9.cell? ⟨N11, 0, none⟩ = some (.string alo) := h9.cell' Hc0
            have Ic1 : w9.cell? ⟨N11, 1, none⟩ = some (.string ahi) := h9.cell' Hc1
            have Ic2 : w9.cell? ⟨N11, 2, none⟩ = some (.int .i64 ag) := h9.cell' Hc2
            have Ic3 : w9.cell? ⟨N11, 3, none⟩ = some (.int .i64 ae) := h9.cell' Hc3
            have F9 : Hid (Fr Nix w w9) := F8.out.nix h9
            clear h9 Hb0 Hb1 Hb2 Hb3 Ha0 Ha1 Ha2 Ha3 Hc0 Hc1 Hc2 Hc3
            go_wp2_with fail
            refine (HO2 _ F9.out).out.mono ?_
            rintro e v1 ⟨rfl, k1⟩
            have yb0 : v1.cell? ⟨N0, 0, none⟩ = some (.int .i64 ep) := k1.cell' Ib0
            have yb1 : v1.cell? ⟨N0, 1, none⟩ = some (.slice A n c) := k1.cell' Ib1
            have ya2 : v1.cell? ⟨N9, 2, none⟩ = some (.int .i64 ag) := k1.cell' Ia2
            have FV : Hid (Fr Nix w v1) := F9.out.nix k1
            clear k1 Ib0 Ib1 Ib2 Ib3 Ia0 Ia1 Ia2 Ia3 Ic0 Ic1 Ic2 Ic3
            have q0 := ups (World.block_lt_of_cell? _ _ yb0)
            have q1 := ups (World.block_lt_of_cell? _ _ ya2)
            cases ic with
            | false =>
              have hG := GN.out (rfl)
              go_wp2_with fail
              have RG := (Own1.lit (T := 9) (f := Value.string) (v1.alloc (.cells #[.string dlo, .string dhi, .int .i64 dg, .int .i64 de] 41)) [key, other] (by simp)).rd
              simp only [World.size_alloc] at RG
              refine (HGR _ _ ((FV.out.alloc _).alloc _) RG).out.mono ?_
              rintro e v2 ⟨vg, rfl, og2, ng, fg⟩
              clear RG ng
              rw [hG]
              rw [hG] at og2
              dsimp only [Option.isSome_none, Option.getD_none] at og2 ⊢
              obtain ⟨A6, c6, e6⟩ := og2.rd.form
              subst e6
              have FE : Hid (Fr Nix w v2) := ((FV.out.alloc _).alloc _).nix fg
              clear og2 fg
              dsimp only [List.length_nil]
              go_wp2_with fail
              go_ret
              exact ⟨rfl, FE.out⟩
            | true =>
              have hG := GS.out (by first | rfl | trivial) (by first | rfl | trivial)
              go_wp2_with fail
              have RG := (Own1.lit (T := 9) (f := Value.string) (v1.alloc (.cells #[.string dlo, .string dhi, .int .i64 dg, .int .i64 de] 41)) [key, other] (by simp)).rd
              simp only [World.size_alloc] at RG
              refine (HGR _ _ ((FV.out.alloc _).alloc _) RG).out.mono ?_
              rintro e v2 ⟨vg, rfl, og2, ng, fg⟩
              clear RG ng
              rw [hG]
              rw [hG] at og2
              dsimp only [Option.isSome_some, Option.getD_some] at og2 ⊢
              have hd2 : v2.cell? ⟨v1.heap.size, 2, none⟩ = some (.int .i64 dg) := fg.cell' (by go_simp)
              have ha2 : v2.cell? ⟨N9, 2, none⟩ = some (.int .i64 ag) := fg.cell' (by go_simp)
              have FE : Hid (Fr Nix w v2) := ((FV.out.alloc _).alloc _).nix fg
              clear fg q0 q1 yb0 yb1 ya2 hG
              rw [gsU_two] at og2
              obtain ⟨M1, hM1⟩ : ∃ M1, M1 = v1.heap.size := ⟨_, rfl⟩
              rw [← hM1] at hd2 ⊢
              clear hM1
              rcases Int.lt_trichotomy ag dg with hlt | heq | hgt
              · rw [if_pos hlt] at og2
                obtain ⟨_, A', c', e, hrd⟩ := og2.rd
                rcases hrd with h0 | ⟨kb, koff, rfl, hkb, hc⟩
                · exact absurd h0 (by simp)
                subst e
                have o0 : v2.cell? ⟨kb, koff, none⟩ = some (.int .i64 ag) := hc 0 (by simp)
                have o1 : v2.cell? ⟨kb, koff + 1, none⟩ = some (.int .i64 dg) := hc 1 (by simp)
                clear hc og2
                dsimp only [List.length_cons, List.length_nil, Nat.zero_add, Nat.reduceAdd]
                have m0 : ¬ dg < ag := by omega
                have m1 : ¬ ag = dg := by omega
                have m2 : ¬ dg = ag := by omega
                have m3 : ag ≤ dg := by omega
                have m4 : ¬ dg ≤ ag := by omega
                have n0 : min ag dg = ag := by omega
                have n1 : max ag dg = dg := by omega
                have n2 : decide (ag = dg) = false := decide_eq_false (by omega)
                go_wp2_with fail
                go_quiet (fail)
                go_wp2_with fail
                go_ret
                have n3 : (ag == dg) = false := beq_false_of_ne (by omega)
                refine ⟨?_, FE.out.drewN _⟩
                show Ending.returned (.bool (!(ag == dg))) = _
                rw [n3]
                rfl
              · rw [if_neg (by omega), if_neg (by omega)] at og2
                obtain ⟨_, A', c', e, hrd⟩ := og2.rd
                rcases hrd with h0 | ⟨kb, koff, rfl, hkb, hc⟩
                · exact absurd h0 (by simp)
                subst e
                have o0 : v2.cell? ⟨kb, koff, none⟩ = some (.int .i64 ag) := hc 0 (by simp)
                clear hc og2
                dsimp only [List.length_cons, List.length_nil, Nat.zero_add, Nat.reduceAdd]
                subst heq
                go_wp2_with fail
                go_quiet (fail)
                go_wp2_with fail
                go_ret
                exact ⟨rfl, FE.out.drewN _⟩
              · rw [if_neg (by omega), if_pos hgt] at og2
                obtain ⟨_, A', c', e, hrd⟩ := og2.rd
                rcases hrd with h0 | ⟨kb, koff, rfl, hkb, hc⟩
                · exact absurd h0 (by simp)
                subst e
                have o0 : v2.cell? ⟨kb, koff, none⟩ = some (.int .i64 dg) := hc 0 (by simp)
                have o1 : v2.cell? ⟨kb, koff + 1, none⟩ = some (.int .i64 ag) := hc 1 (by simp)
                clear hc og2
                dsimp only [List.length_cons, List.length_nil, Nat.zero_add, Nat.reduceAdd]
                have m0 : ¬ ag < dg := by omega
                have m1 : ¬ dg = ag := by omega
                have m2 : ¬ ag = dg := by omega
                have m3 : dg ≤ ag := by omega
                have m4 : ¬ ag ≤ dg := by omega
                have n0 : min ag dg = dg := by omega
                have n1 : max ag dg = ag := by omega
                have n2 : decide (ag = dg) = false := decide_eq_false (by omega)
                go_wp2_with fail
                go_quiet (fail)
                go_wp2_with fail
                go_ret
                have n3 : (ag == dg) = false := beq_false_of_ne (by omega)
                refine ⟨?_, FE.out.drewN _⟩
                show Ending.returned (.bool (!(ag == dg))) = _
                rw [n3]
                rfl
end Go.Proofs.Ytpggnelngfpfgaa
