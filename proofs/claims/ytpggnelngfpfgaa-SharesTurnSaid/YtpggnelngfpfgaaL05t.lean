/- SharesTurn: the walk. -/
import Derived.Test.YtpggnelngfpfgaaL05a
import Derived.Test.YtpggnelngfpfgaaStep
import Derived.Test.YtpggnelngfpfgaaShY
namespace Go.Proofs.Ytpggnelngfpfgaa
open Go.RowKit

theorem own_keys {w5 : World} {v5 : Value} {p q : ByteArray} {ks : List ByteArray} {m : Nat} (hm : m = ks.length) (h : w5.ownsRow 0 9 1 v5 (2 + m) ([.string p, .string q] ++ ks.map Value.string)) : RdT w5 v5 ([p, q] ++ ks) := by
  have h' : Own1 9 Value.string w5 v5 ([p, q] ++ ks) := by
    show w5.ownsRow _ _ _ _ _ _
    rw [List.length_append, List.map_append, ← hm]
    exact h
  exact h'.rd
set_option maxRecDepth 100000 in
set_option maxHeartbeats 16000000 in
theorem sharesTurn_any (w : World) (ep : Int) (v kv : Value) (xs : List Shr) (p q : ByteArray) (g : Int) (ks : List ByteArray) (hv : RdSh w v xs) (hs : SmallS xs) (hp : p.size ≤ 140737488351232) (hq : q.size ≤ 140737488351232)
    (hk : RdT w kv ks) (hsk : SmallT ks) (hkl : ks.length * 16 ≤ 140737488351232) :
    Calls Try.prog 4 #[.agg #[.int .i64 ep, v], .agg #[.string p, .string q], .int .i64 g, kv] w fun e w' => e = .returned (.bool true) ∧ Fr Nix w w' := by
  obtain ⟨i0, hi0, hz0, hz1, hz2⟩ := info_parts infoStr
  obtain ⟨n, hn⟩ : ∃ n, n = xs.length := ⟨_, rfl⟩
  obtain ⟨m, hm⟩ : ∃ m, m = ks.length := ⟨_, rfl⟩
  obtain ⟨A, c, hvf⟩ : ∃ A c, v = .slice A n c := by obtain ⟨A, c, e⟩ := hv.form; exact ⟨A, c, by rw [hn]; exact e⟩
  obtain ⟨A2, c2, hkf⟩ : ∃ A c, kv = .slice A m c := by obtain ⟨A, c, e⟩ := hk.form; exact ⟨A, c, by rw [hm]; exact e⟩
  subst hvf
  subst hkf
  have HV := Lib.hid hv
  have HK := Lib.hid hk
  have HS := Lib.hid hs
  have HSK : Hid (SmallT ([p, q] ++ ks)) := fun s h => by
    simp only [List.cons_append, List.nil_append, List.mem_cons] at h
    rcases h with rfl | rfl | h
    · exact hp
    · exact hq
    · exact hsk s h
  have HN := Lib.hid hn
  have HM := Lib.hid hm
  rw [← hm] at hkl
  clear hv hk hs hsk hn hm
  go_enter Try.func4, Try.ntmps4
  go_wp2_with fail
  refine (awake05_any _).mono ?_
  rintro e w1 ⟨rfl, h1⟩
  have a0 : w1.drew.cell? ⟨w.heap.size, 0, none⟩ = some (.int .i64 ep) := h1.cell' (by go_simp)
  have a1 : w1.drew.cell? ⟨w.heap.size, 1, none⟩ = some (.slice A n c) := h1.cell' (by go_simp)
  have a2 : w1.drew.cell? ⟨w.heap.size + 1, 0, none⟩ = some (.string p) := h1.cell' (by go_simp)
  have a3 : w1.drew.cell? ⟨w.heap.size + 1, 1, none⟩ = some (.string q) := h1.cell' (by go_simp)
  have b0 : w1.cell? ⟨w.heap.size, 0, none⟩ = some (.int .i64 ep) := a0
  have b1 : w1.cell? ⟨w.heap.size, 1, none⟩ = some (.slice A n c) := a1
  have b2 : w1.cell? ⟨w.heap.size + 1, 0, none⟩ = some (.string p) := a2
  have b3 : w1.cell? ⟨w.heap.size + 1, 1, none⟩ = some (.string q) := a3
  have F1 : Hid (Fr Nix w w1.drew) := ((((Fr.refl _ _).alloc _).alloc _).nix h1).drew
  obtain ⟨N0, hN0⟩ : ∃ N0, N0 = w.heap.size := ⟨_, rfl⟩
  rw [← hN0] at a0 a1 a2 a3 b0 b1 b2 b3 ⊢
  have z0 := ups (World.block_lt_of_cell? _ _ b0)
  have z1 := ups (World.block_lt_of_cell? _ _ b2)
  clear h1 hN0
  have OL : Hid ((w1.drew.alloc (.cells #[.string p, .string q] 9)).ownsRow 0 9 1 (.slice (some ⟨w1.heap.size, 0, none⟩) 2 2) 2 [.string p, .string q]) := Own1.lit (T := 9) (f := Value.string) w1.drew [p, q] (by simp)
  have SL : Hid (Src (w1.drew.alloc (.cells #[.string p, .string q] 9)) 1 (.slice A2 m c2) m (ks.map Value.string)) := by
    have := (HK.out.nix (F1.out.alloc (.cells #[.string p, .string q] 9))).src (fun _ => rfl)
    rw [← HM.out] at this
    exact this
  go_wp2_with fail
  go_region_held3 (fun X => X.cell? ⟨N0, 0, none⟩ = some (.int .i64 ep) ∧ X.cell? ⟨N0, 1, none⟩ = some (.slice A n c) ∧ X.cell? ⟨N0 + 1, 0, none⟩ = some (.string p) ∧ X.cell? ⟨N0 + 1, 1, none⟩ = some (.string q)) (first | go_keep | (refine ⟨?_, ?_, ?_, ?_⟩ <;> assumption))
    (first
      | (go_at_call 14; refine (great05_any w5 ep (.slice A n c) v5 xs ([p, q] ++ ks) (HV.out.nix F5.out) HS.out R5.out HSK.out).mono ?_; rintro e w6 ⟨bb, rfl, g6, f6⟩; have t0 : w6.cell? ⟨N0, 0, none⟩ = some (.int .i64 ep) := f6.cell' s0; have t1 : w6.cell? ⟨N0, 1, none⟩ = some (.slice A n c) := f6.cell' s1; have t2 : w6.cell? ⟨N0 + 1, 0, none⟩ = some (.string p) := f6.cell' s2; have t3 : w6.cell? ⟨N0 + 1, 1, none⟩ = some (.string q) := f6.cell' s3)
      | (refine step_append (by rfl) (.tmp 25) (.tmp 26) 37 (by rfl) 9 i0 _ 1 16 Try.underlying37 hi0 hz0 hz1 hz2 rfl (by decide) (.slice (some ⟨w1.heap.size, 0, none⟩) 2 2) 2 [.string p, .string q] (by rfl) OL.out (.slice A2 m c2) (by rfl) m (ks.map Value.string) SL.out (by simp only [maxLen]; omega) (by omega) ?_; intro v5 w5 ho5 hf5 hat5; have Fx : Fr Nix w1.drew w5 := ((Fr.refl Nix w1.drew).alloc _).then hf5 (fun i hi e => by have e' : w1.heap.size = i := (by injection e); have hi' : i < w1.heap.size := hi; omega); have F5 : Hid (Fr Nix w w5) := F1.out.nix Fx; have s0 : w5.cell? ⟨N0, 0, none⟩ = some (.int .i64 ep) := Fx.cell' a0; have s1 : w5.cell? ⟨N0, 1, none⟩ = some (.slice A n c) := Fx.cell' a1; have s2 : w5.cell? ⟨N0 + 1, 0, none⟩ = some (.string p) := Fx.cell' a2; have s3 : w5.cell? ⟨N0 + 1, 1, none⟩ = some (.string q) := Fx.cell' a3; have R5 : Hid (RdT w5 v5 ([p, q] ++ ks)) := own_keys HM.out ho5))
  all_goals
    have F6 : Hid (Fr Nix w w6) := F5.out.nix f6
    cases bb with
    | true =>
      go_wp2_with fail
      go_ret
      exact ⟨rfl, F6.out⟩
    | false =>
      obtain ⟨hn60, hm60⟩ := g6 rfl
      have hm60' : m ≤ 60 := by rw [HM.out]; simp only [List.length_append, List.length_cons, List.length_nil] at hm60; omega
      have HT := Lib.hid (turn_any w6 ep (.slice A n c) xs p q g (HV.out.nix F6.out) (by omega))
      clear g6 f6 a0 a1 a2 a3 b0 b1 b2 b3 s0 s1 s2 s3 ho5 hf5 hat5 Fx R5 F5 OL SL HSK F1 z0 z1 hm60
      go_wp2_with fail
      refine HT.out.mono ?_
      rintro e w7 ⟨v7, rfl, o7, n7, f7⟩
      have u0 : w7.cell? ⟨N0, 0, none⟩ = some (.int .i64 ep) := f7.cell' t0
      have u1 : w7.cell? ⟨N0, 1, none⟩ = some (.slice A n c) := f7.cell' t1
      have u2 : w7.cell? ⟨N0 + 1, 0, none⟩ = some (.string p) := f7.cell' t2
      have u3 : w7.cell? ⟨N0 + 1, 1, none⟩ = some (.string q) := f7.cell' t3
      have F7 : Hid (Fr Nix w w7) := F6.out.nix f7
      clear t0 t1 t2 t3 f7 n7 HT F6
      obtain ⟨TB, hTB⟩ : ∃ TB, TB = turnB ⟨ep, xs⟩ p q g := ⟨_, rfl⟩
      rw [← hTB] at o7 ⊢
      obtain ⟨⟨te, tl⟩, er⟩ := TB
      have HTB : Hid (turnB ⟨ep, xs⟩ p q g = (⟨te, tl⟩, er)) := hTB.symm
      dsimp only at o7 ⊢
      have R7 := Lib.hid o7.rd
      obtain ⟨A7, m7, c7, rfl⟩ := o7.form
      have M7 : Hid (m7 = tl.length) := by
        obtain ⟨_, A', c', e, _⟩ := R7.out
        simp only [Value.slice.injEq] at e
        exact e.2.1
      clear hTB o7
      by_cases her : er = 0
      · subst her
        obtain ⟨l1, x, l2, hl1, _, _, _, hr, _, _, _, htt, ht40⟩ := turn_ok HTB.out
        have ht := turn_right HTB.out
        have hte : te = ep + 1 := congrArg Shs.ep htt
        have hb := ((rightS_iff _).1 hr).1
        have hep1 : 1 ≤ ep := hb.1
        have hep2 : ep ≤ 1073741824 := hb.2
        have hm740 : m7 ≤ 40 := by rw [M7.out]; exact ht40
        have HRS := Lib.hid hr
        have HRT := Lib.hid ht
        subst hte
        have hw1 : IntKind.i64.wrap (ep + 1) = ep + 1 := IntWalk.i64_in _ (by omega)
        clear hl1 hr ht htt hb
        have htl : tl.length ≤ 1000000000 := by have := ht40; dsimp only at this; omega
        clear ht40
        have z7 := ups (World.block_lt_of_cell? _ _ u0)
        have z7' := ups (World.block_lt_of_cell? _ _ u2)
        go_wp2_with fail
        refine (sharesRight_any _ ep (.slice A n c) xs (HV.out.nix (F7.out.alloc _)) (by omega)).mono ?_
        rintro e w8 ⟨rfl, h8⟩
        rw [HRS.out]
        have d0 : w8.cell? ⟨N0, 0, none⟩ = some (.int .i64 ep) := h8.cell' (((Fr.refl Nix w7).alloc _).cell' u0)
        have d1 : w8.cell? ⟨N0, 1, none⟩ = some (.slice A n c) := h8.cell' (((Fr.refl Nix w7).alloc _).cell' u1)
        have d2 : w8.cell? ⟨N0 + 1, 0, none⟩ = some (.string p) := h8.cell' (((Fr.refl Nix w7).alloc _).cell' u2)
        have d3 : w8.cell? ⟨N0 + 1, 1, none⟩ = some (.string q) := h8.cell' (((Fr.refl Nix w7).alloc _).cell' u3)
        have d4 : w8.cell? ⟨w7.heap.size, 0, none⟩ = some (.int .i64 (ep + 1)) := h8.cell' (by go_simp)
        have d5 : w8.cell? ⟨w7.heap.size, 1, none⟩ = some (.slice A7 m7 c7) := h8.cell' (by go_simp)
        have F8 : Hid (Fr Nix w7 w8) := ((Fr.refl _ _).alloc _).nix h8
        clear h8 u0 u1 u2 u3 z7 z7'
        have z8 := ups (World.block_lt_of_cell? _ _ d0)
        have z8' := ups (World.block_lt_of_cell? _ _ d2)
        have z8'' := ups (World.block_lt_of_cell? _ _ d4)
        go_wp2_with fail
        refine (sharesRight_any _ (ep + 1) (.slice A7 m7 c7) tl (R7.out.nix F8.out) htl).mono ?_
        rintro e w9 ⟨rfl, h9⟩
        rw [HRT.out]
        obtain ⟨T9, hT9⟩ : ∃ T9, T9 = w7.heap.size := ⟨_, rfl⟩
        rw [← hT9] at d4 d5 ⊢
        have e0 : w9.cell? ⟨N0, 0, none⟩ = some (.int .i64 ep) := h9.cell' d0
        have e1 : w9.cell? ⟨N0, 1, none⟩ = some (.slice A n c) := h9.cell' d1
        have e2 : w9.cell? ⟨N0 + 1, 0, none⟩ = some (.string p) := h9.cell' d2
        have e3 : w9.cell? ⟨N0 + 1, 1, none⟩ = some (.string q) := h9.cell' d3
        have e4 : w9.cell? ⟨T9, 0, none⟩ = some (.int .i64 (ep + 1)) := h9.cell' d4
        have e5 : w9.cell? ⟨T9, 1, none⟩ = some (.slice A7 m7 c7) := h9.cell' d5
        have F9 : Hid (Fr Nix w7 w9) := F8.out.nix h9
        clear h9 d0 d1 d2 d3 d4 d5 F8 hT9 z8 z8' z8''
        go_wp2_with fail
        go_loopg [11] m (fun gg s11 wr => ∃ i : Nat, i ≤ m ∧ m - i ≤ gg ∧ s11 = .int .i64 i ∧ Hid (Fr Nix w9 wr))
        case atStart => exact ⟨0, Nat.zero_le _, by omega, rfl, Fr.refl _ _⟩
        case round =>
          obtain ⟨i, hi, hg, rfl, H⟩ := hrel
          by_cases hlt : i < m
          · have hlti : (i : Int) < (m : Int) := by omega
            have FW7 : Hid (Fr Nix w7 wr) := F9.out.nix H.out
            have FW : Hid (Fr Nix w wr) := F7.out.nix FW7.out
            have hltk : i < ks.length := by rw [← HM.out]; exact hlt
            obtain ⟨_, A', c', e, hrd⟩ := HK.out.nix FW.out
            rw [← HM.out] at e
            simp only [Value.slice.injEq] at e
            obtain ⟨rfl, e2', rfl⟩ := e
            clear e2'
            rcases hrd with h0 | ⟨kb, koff, rfl, hkb, hc⟩
            · rw [h0] at hltk; cases hltk
            have kc := hc i hltk
            clear hc
            generalize ks[i] = key at kc
            have y0 := H.out.cell' e0
            have y1 := H.out.cell' e1
            have y2 := H.out.cell' e2
            have y3 := H.out.cell' e3
            have y4 := H.out.cell' e4
            have y5 := H.out.cell' e5
            have z0 := ups (World.block_lt_of_cell? _ _ y0)
            have z1 := ups (World.block_lt_of_cell? _ _ y2)
            have z2 := ups (World.block_lt_of_cell? _ _ y4)
            have z3 := ups hkb
            have HO1 := fun W (h : Fr Nix wr W) => Lib.hid (of_any W ep (.slice A n c) xs key (HV.out.nix (FW.out.nix h)) (by omega))
            have HO2 := fun W (h : Fr Nix wr W) => Lib.hid (of_any W (ep + 1) (.slice A7 m7 c7) tl key (R7.out.nix (FW7.out.nix h)) htl)
            have HL : Hid ((ofB ⟨ep, xs⟩ key).isSome = keyB key ∧ (ofB ⟨ep + 1, tl⟩ key).isSome = keyB key ∧ (keyB key = true → (hasB p q key = true → ((ofB ⟨ep + 1, tl⟩ key).getD Shr.zero).g = g ∧ ((ofB ⟨ep + 1, tl⟩ key).getD Shr.zero).e = ep + 1 ∧ ((ofB ⟨ep, xs⟩ key).getD Shr.zero).g ≠ g) ∧
                (hasB p q key = false → ((ofB ⟨ep, xs⟩ key).getD Shr.zero).g = ((ofB ⟨ep + 1, tl⟩ key).getD Shr.zero).g ∧ ((ofB ⟨ep, xs⟩ key).getD Shr.zero).e = ((ofB ⟨ep + 1, tl⟩ key).getD Shr.zero).e))) := by
              refine ⟨by rw [of_isSome, HRS.out]; rfl, by rw [of_isSome, HRT.out]; rfl, fun hk => ?_⟩
              obtain ⟨a, b, ha, hb, h1, h2⟩ := turn_keys HTB.out hk
              rw [ha, hb]
              exact ⟨h1, h2⟩
            have HCNT := Lib.hid (right_count HRT.out key)
            obtain ⟨a, ha⟩ : ∃ a, a = (ofB ⟨ep, xs⟩ key).getD Shr.zero := ⟨_, rfl⟩
            obtain ⟨b, hb⟩ : ∃ b, b = (ofB ⟨ep + 1, tl⟩ key).getD Shr.zero := ⟨_, rfl⟩
            rw [← ha, ← hb] at HL
            have HA : ∀ W (h : Fr Nix wr W), Hid (Calls Try.prog 16 #[.agg #[.int .i64 ep, .slice A n c], .string key] W fun e w' => e = .returned (.tuple #[.agg #[.string a.lo, .string a.hi, .int .i64 a.g, .int .i64 a.e], .bool (keyB key)]) ∧ Fr Nix W w') := fun W h => by
              have := (HO1 W h).out
              rw [← ha, HL.out.1] at this
              exact this
            have HB : ∀ W (h : Fr Nix wr W), Hid (Calls Try.prog 16 #[.agg #[.int .i64 (ep + 1), .slice A7 m7 c7], .string key] W fun e w' => e = .returned (.tuple #[.agg #[.string b.lo, .string b.hi, .int .i64 b.g, .int .i64 b.e], .bool (keyB key)]) ∧ Fr Nix W w') := fun W h => by
              have := (HO2 W h).out
              rw [← hb, HL.out.2.1] at this
              exact this
            have HL2 := Lib.hid HL.out.2.2
            clear HO1 HO2 HL ha hb
            obtain ⟨alo, ahi, ag, ae⟩ := a
            obtain ⟨blo, bhi, bg, be⟩ := b
            dsimp only at HA HB HL2
            generalize hkey : keyB key = kk at HA HB HL2 HCNT
            go_wp2_with fail
            have xw100 : wr.drew.cell? ⟨N0, 0, none⟩ = some (.int .i64 ep) := y0
            have xw101 : wr.drew.cell? ⟨N0, 1, none⟩ = some (.slice A n c) := y1
            have xw102 : wr.drew.cell? ⟨kb, koff + i, none⟩ = some (.string key) := kc
            refine region_abs (fun a a' w' => ∃ B, a' = (((((((((((a.put (some 70) (.agg #[.int .i64 ep, .slice A n c])).put (some 71) (.slice (some ⟨kb, koff, none⟩) m c2)).put (some 72) (.int .i64 (i : Nat))).put (some 73) (.pointer (some ⟨kb, koff + i, none⟩))).put (some 74) (.string key)).put (some 75) (.tuple #[.agg #[.string alo, .string ahi, .int .i64 ag, .int .i64 ae], .bool kk])).put (some 69) (.tuple #[.agg #[.string alo, .string ahi, .int .i64 ag, .int .i64 ae], .bool kk])).put (some 76) (.agg #[.string alo, .string ahi, .int .i64 ag, .int .i64 ae])).put (some 77) (.bool kk)).put (some 12) (.pointer (some ⟨B, 0, none⟩))).put (some 13) (.bool kk)) ∧ Fr Nix wr w' ∧ Blk w' B [.string alo, .string ahi, .int .i64 ag, .int .i64 ae] 41) ?_ ?_
            · go_region_held3 (fun X => X.cell? ⟨N0, 0, none⟩ = some (.int .i64 ep) ∧ X.cell? ⟨N0, 1, none⟩ = some (.slice A n c) ∧ X.cell? ⟨kb, koff + i, none⟩ = some (.string key))
                (refine ⟨Fr.cell' (w := wr.drew) ?_ xw100, Fr.cell' (w := wr.drew) ?_ xw101, Fr.cell' (w := wr.drew) ?_ xw102⟩ <;> ((first | exact F10 | exact Fr.refl _ _ | exact Fr.alloc F10 _ | exact Fr.alloc (Fr.refl _ _) _ | exact (((F10.setCell (.inl (Nat.le_refl _)) _).setCell (.inl (Nat.le_refl _)) _).setCell (.inl (Nat.le_refl _)) _).setCell (.inl (Nat.le_refl _)) _); done))
                (first | (go_at_call 16; refine (HA _ (by repeat (first | exact Fr.refl _ _ | refine Fr.alloc ?_ _ | refine Fr.drew ?_))).out.mono ?_; rintro e w10 ⟨rfl, h10⟩; have F10 : Fr Nix wr.drew w10 := Fr.nix (by first | exact Fr.refl _ _ | exact Fr.ofdrew (Fr.drew (Fr.alloc (Fr.refl _ _) _))) h10; have sw100 : w10.cell? ⟨N0, 0, none⟩ = some (.int .i64 ep) := F10.cell' xw100; have sw101 : w10.cell? ⟨N0, 1, none⟩ = some (.slice A n c) := F10.cell' xw101; have sw102 : w10.cell? ⟨kb, koff + i, none⟩ = some (.string key) := F10.cell' xw102; have Lw10 := fun o => look_eq h10 wr.heap.size o; have Rw10 := fun o => froz_eq h10 wr.heap.size o))
              all_goals
                first
                  | exact ⟨rfl, w10.heap.size, rfl, (Fr.indrew F10).alloc _, Blk.new w10 [.string alo, .string ahi, .int .i64 ag, .int .i64 ae] _⟩
                  | exact ⟨rfl, wr.heap.size, rfl, (((((Fr.indrew F10).setCell (.inl (Nat.le_refl _)) _).setCell (.inl (Nat.le_refl _)) _).setCell (.inl (Nat.le_refl _)) _).setCell (.inl (Nat.le_refl _)) _), ((((Blk.mono (F := Nix) (Blk.new wr [.string ⟨#[]⟩, .string ⟨#[]⟩, .int .i64 0, .int .i64 0] 41) (Fr.indrew h10) (fun h => h)).set 0 _).set 1 _).set 2 _).set 3 _⟩
            rintro _ W12 ⟨B12, rfl, F12, C12⟩
            have G4 : W12.cell? ⟨T9, 0, none⟩ = some (.int .i64 (ep + 1)) := F12.cell' y4
            have G5 : W12.cell? ⟨T9, 1, none⟩ = some (.slice A7 m7 c7) := F12.cell' y5
            have Gk : W12.cell? ⟨kb, koff + i, none⟩ = some (.string key) := F12.cell' kc
            have G2 : W12.cell? ⟨N0 + 1, 0, none⟩ = some (.string p) := F12.cell' y2
            have G3 : W12.cell? ⟨N0 + 1, 1, none⟩ = some (.string q) := F12.cell' y3
            clear xw100 xw101 xw102 z0 z1 z2 z3
            have v0 := ups (World.block_lt_of_cell? _ _ G2)
            have v1 := ups (World.block_lt_of_cell? _ _ G4)
            have v2 := ups (World.block_lt_of_cell? _ _ Gk)
            have v3 := ups C12.lt
            go_wp2_with fail
            have xw110 : W12.drew.cell? ⟨T9, 0, none⟩ = some (.int .i64 (ep + 1)) := G4
            have xw111 : W12.drew.cell? ⟨T9, 1, none⟩ = some (.slice A7 m7 c7) := G5
            have xw112 : W12.drew.cell? ⟨kb, koff + i, none⟩ = some (.string key) := Gk
            refine region_abs (fun a a' w' => ∃ B, a' = (((((((((((a.put (some 79) (.agg #[.int .i64 (ep + 1), .slice A7 m7 c7])).put (some 80) (.slice (some ⟨kb, koff, none⟩) m c2)).put (some 81) (.int .i64 (i : Nat))).put (some 82) (.pointer (some ⟨kb, koff + i, none⟩))).put (some 83) (.string key)).put (some 84) (.tuple #[.agg #[.string blo, .string bhi, .int .i64 bg, .int .i64 be], .bool kk])).put (some 78) (.tuple #[.agg #[.string blo, .string bhi, .int .i64 bg, .int .i64 be], .bool kk])).put (some 85) (.agg #[.string blo, .string bhi, .int .i64 bg, .int .i64 be])).put (some 86) (.bool kk)).put (some 14) (.pointer (some ⟨B, 0, none⟩))).put (some 15) (.bool kk)) ∧ Fr Nix W12 w' ∧ Blk w' B [.string blo, .string bhi, .int .i64 bg, .int .i64 be] 41) ?_ ?_
            · go_region_held3 (fun X => X.cell? ⟨T9, 0, none⟩ = some (.int .i64 (ep + 1)) ∧ X.cell? ⟨T9, 1, none⟩ = some (.slice A7 m7 c7) ∧ X.cell? ⟨kb, koff + i, none⟩ = some (.string key))
                (refine ⟨Fr.cell' (w := W12.drew) ?_ xw110, Fr.cell' (w := W12.drew) ?_ xw111, Fr.cell' (w := W12.drew) ?_ xw112⟩ <;> ((first | exact F11 | exact Fr.refl _ _ | exact Fr.alloc F11 _ | exact Fr.alloc (Fr.refl _ _) _ | exact (((F11.setCell (.inl (Nat.le_refl _)) _).setCell (.inl (Nat.le_refl _)) _).setCell (.inl (Nat.le_refl _)) _).setCell (.inl (Nat.le_refl _)) _); done))
                (first | (go_at_call 16; refine (HB _ (Fr.nix F12 (by repeat (first | exact Fr.refl _ _ | refine Fr.alloc ?_ _ | refine Fr.drew ?_)))).out.mono ?_; rintro e w11 ⟨rfl, h11⟩; have F11 : Fr Nix W12.drew w11 := Fr.nix (by first | exact Fr.refl _ _ | exact Fr.ofdrew (Fr.drew (Fr.alloc (Fr.refl _ _) _))) h11; have sw110 : w11.cell? ⟨T9, 0, none⟩ = some (.int .i64 (ep + 1)) := F11.cell' xw110; have sw111 : w11.cell? ⟨T9, 1, none⟩ = some (.slice A7 m7 c7) := F11.cell' xw111; have sw112 : w11.cell? ⟨kb, koff + i, none⟩ = some (.string key) := F11.cell' xw112; have Lw11 := fun o => look_eq h11 W12.heap.size o; have Rw11 := fun o => froz_eq h11 W12.heap.size o))
              all_goals
                first
                  | exact ⟨rfl, w11.heap.size, rfl, (Fr.indrew F11).alloc _, Blk.new w11 [.string blo, .string bhi, .int .i64 bg, .int .i64 be] _⟩
                  | exact ⟨rfl, W12.heap.size, rfl, (((((Fr.indrew F11).setCell (.inl (Nat.le_refl _)) _).setCell (.inl (Nat.le_refl _)) _).setCell (.inl (Nat.le_refl _)) _).setCell (.inl (Nat.le_refl _)) _), ((((Blk.mono (F := Nix) (Blk.new W12 [.string ⟨#[]⟩, .string ⟨#[]⟩, .int .i64 0, .int .i64 0] 41) (Fr.indrew h11) (fun h => h)).set 0 _).set 1 _).set 2 _).set 3 _⟩
            rintro _ W14 ⟨B14, rfl, F14, C14⟩
            clear xw110 xw111 xw112 v0 v1 v2 v3
            have K4 : W14.cell? ⟨T9, 0, none⟩ = some (.int .i64 (ep + 1)) := F14.cell' G4
            have K5 : W14.cell? ⟨T9, 1, none⟩ = some (.slice A7 m7 c7) := F14.cell' G5
            have Kk : W14.cell? ⟨kb, koff + i, none⟩ = some (.string key) := F14.cell' Gk
            have K2 : W14.cell? ⟨N0 + 1, 0, none⟩ = some (.string p) := F14.cell' G2
            have K3 : W14.cell? ⟨N0 + 1, 1, none⟩ = some (.string q) := F14.cell' G3
            have Ka : W14.cell? ⟨B12, 2, none⟩ = some (.int .i64 ag) := F14.cell' (C12.cell 2)
            have Kb : W14.cell? ⟨B12, 3, none⟩ = some (.int .i64 ae) := F14.cell' (C12.cell 3)
            have Kc : W14.cell? ⟨B14, 2, none⟩ = some (.int .i64 bg) := C14.cell 2
            have Kd : W14.cell? ⟨B14, 3, none⟩ = some (.int .i64 be) := C14.cell 3
            have FR14 : Hid (Fr Nix wr W14) := F12.nix F14
            clear G2 G3 G4 G5 Gk C12 C14 F12 F14 y0 y1 y2 y3 y4 y5 kc HA HB
            go_wp2_with fail
            have q0 := ups (World.block_lt_of_cell? _ _ K2)
            have q1 := ups (World.block_lt_of_cell? _ _ K4)
            have q2 := ups (World.block_lt_of_cell? _ _ Kk)
            go_loopg [16, 17] m7 (fun gg s16 s17 wr => ∃ (k cnt : Nat), k ≤ m7 ∧ m7 - k ≤ gg ∧ s17 = .int .i64 k ∧ s16 = .int .i64 cnt ∧ cnt ≤ k ∧ Hid (Fr Nix W14 wr ∧ cnt = ((tl.take k).filter (fun x => hasB x.lo x.hi key)).length))
            case atStart => exact ⟨0, 0, Nat.zero_le _, by omega, rfl, rfl, Nat.le_refl _, Fr.refl _ _, by simp⟩
            case round =>
              obtain ⟨k, cnt, hk, hg2, rfl, rfl, hck, HH⟩ := hrel
              have k4 := HH.out.1.cell' K4
              have k5 := HH.out.1.cell' K5
              have kk' := HH.out.1.cell' Kk
              by_cases hltk : k < m7
              · have hltki : (k : Int) < (m7 : Int) := by omega
                have hltl : k < tl.length := by rw [← M7.out]; exact hltk
                have F7x : Hid (Fr Nix w7 wr) := (FW7.out.nix FR14.out).nix HH.out.1
                obtain ⟨_, A', c', e, hrd⟩ := R7.out.nix F7x.out
                rw [← M7.out] at e
                simp only [Value.slice.injEq] at e
                obtain ⟨rfl, e2', rfl⟩ := e
                clear e2'
                rcases hrd with h0 | ⟨tb, toff, rfl, htb, hc⟩
                · rw [h0] at hltl; cases hltl
                obtain ⟨m0, m1, m2, m3⟩ := sh_cells hc (Fr.refl _ _) k hltl
                have HF : Hid (((tl.take (k + 1)).filter (fun x => hasB x.lo x.hi key)).length = ((tl.take k).filter (fun x => hasB x.lo x.hi key)).length + (if hasB tl[k].lo tl[k].hi key then 1 else 0)) := by
                  show _ = _
                  rw [List.take_succ_eq_append_getElem hltl, List.filter_append, List.length_append, List.filter_cons]
                  cases hasB tl[k].lo tl[k].hi key <;> rfl
                clear hc
                generalize tl[k] = y at m0 m1 m2 m3 HF
                obtain ⟨ylo, yhi, yg, ye⟩ := y
                dsimp only at m0 m1 m2 m3 HF
                have HHAS := fun W => Lib.hid (has_any ylo yhi key W)
                cases hh : hasB ylo yhi key with
                | true =>
                  rw [hh] at HF
                  have HHH := Lib.hid hh
                  clear hh
                  go_wp2_with fail
                  go_region_with (go_at_call 17; refine (HHAS _).out.mono ?_; rintro e w15 ⟨rfl, h15⟩; rw [HHH.out])
                  all_goals
                    go_wp2_with fail
                    go_roundg (m7 - (k + 1))
                    case measure => omega
                    case rel => exact ⟨k + 1, cnt + 1, by omega, by omega, by go_num, by go_num, by omega, HH.out.1.nix (Fr.indrew h15), by rw [HF.out, ← HH.out.2]; rfl⟩
                | false =>
                  rw [hh] at HF
                  have HHH := Lib.hid hh
                  clear hh
                  go_wp2_with fail
                  go_region_with (go_at_call 17; refine (HHAS _).out.mono ?_; rintro e w15 ⟨rfl, h15⟩; rw [HHH.out])
                  all_goals
                    go_wp2_with fail
                    go_roundg (m7 - (k + 1))
                    case measure => omega
                    case rel => exact ⟨k + 1, cnt, by omega, by omega, by go_num, rfl, by omega, HH.out.1.nix (Fr.indrew h15), by rw [HF.out, ← HH.out.2]; rfl⟩
              · have hkm : k = m7 := by omega
                have hcnt : cnt = if kk then 1 else 0 := by
                  rw [HH.out.2, hkm, M7.out, List.take_length]
                  exact HCNT.out
                have hltki : ¬ (k : Int) < (m7 : Int) := by omega
                have F9x : Hid (Fr Nix w9 wr) := (H.out.nix FR14.out).nix HH.out.1
                have k2 := HH.out.1.cell' K2
                have k3 := HH.out.1.cell' K3
                have ka := HH.out.1.cell' Ka
                have kb' := HH.out.1.cell' Kb
                have kc' := HH.out.1.cell' Kc
                have kd := HH.out.1.cell' Kd
                have HKEY := fun W => Lib.hid (key_any key W)
                rw [hkey] at HKEY
                have HPQ := fun W => Lib.hid (has_any p q key W)
                have j0 := ups (World.block_lt_of_cell? _ _ k2)
                have j1 := ups (World.block_lt_of_cell? _ _ kk')
                have j2 := ups (World.block_lt_of_cell? _ _ ka)
                have j3 := ups (World.block_lt_of_cell? _ _ kc')
                have j4 := ups (World.block_lt_of_cell? _ _ k4)
                clear HH hkm K2 K3 K4 K5 Ka Kb Kc Kd Kk q0 q1 q2 HCNT hck
                cases kk with
                | false =>
                  have hc0 : cnt = 0 := hcnt
                  subst hc0
                  clear hcnt
                  go_wp2_with (go_at_call 18; refine (HKEY _).out.mono ?_; rintro e w' ⟨rfl, rfl⟩)
                  go_roundg (m - (i + 1))
                  case measure => omega
                  case rel => exact ⟨i + 1, by omega, by omega, by go_num, F9x.out⟩
                | true =>
                  have hc1 : cnt = 1 := hcnt
                  subst hc1
                  clear hcnt
                  go_wp2_with (first | (go_at_call 18; refine (HKEY _).out.mono ?_; rintro e w' ⟨rfl, rfl⟩) | fail)
                  cases hpq : hasB p q key with
                  | true =>
                    obtain ⟨l1, l2, l3⟩ := (HL2.out (by first | rfl | trivial)).1 hpq
                    have HHH := Lib.hid hpq
                    clear hpq HL2
                    go_region_with (go_at_call 17; refine (HPQ _).out.mono ?_; rintro e w15 ⟨rfl, h15⟩; rw [HHH.out]; have o0 : w15.cell? ⟨B14, 2, none⟩ = some (.int .i64 bg) := (Fr.indrew h15).cell' kc'; have o1 : w15.cell? ⟨B14, 3, none⟩ = some (.int .i64 be) := (Fr.indrew h15).cell' kd; have o2 : w15.cell? ⟨B12, 2, none⟩ = some (.int .i64 ag) := (Fr.indrew h15).cell' ka; have o3 : w15.cell? ⟨T9, 0, none⟩ = some (.int .i64 (ep + 1)) := (Fr.indrew h15).cell' k4)
                    all_goals
                      have l3' : ¬ ag = g := l3
                      subst l1
                      subst l2
                      go_wp2_with fail
                      go_roundg (m - (i + 1))
                      case measure => omega
                      case rel => exact ⟨i + 1, by omega, by omega, by go_num, F9x.out.nix (Fr.indrew h15)⟩
                  | false =>
                    obtain ⟨l1, l2⟩ := (HL2.out (by first | rfl | trivial)).2 hpq
                    have HHH := Lib.hid hpq
                    clear hpq HL2
                    go_region_with (go_at_call 17; refine (HPQ _).out.mono ?_; rintro e w15 ⟨rfl, h15⟩; rw [HHH.out]; have o0 : w15.cell? ⟨B14, 2, none⟩ = some (.int .i64 bg) := (Fr.indrew h15).cell' kc'; have o1 : w15.cell? ⟨B14, 3, none⟩ = some (.int .i64 be) := (Fr.indrew h15).cell' kd; have o2 : w15.cell? ⟨B12, 2, none⟩ = some (.int .i64 ag) := (Fr.indrew h15).cell' ka; have o3 : w15.cell? ⟨B12, 3, none⟩ = some (.int .i64 ae) := (Fr.indrew h15).cell' kb')
                    all_goals
                      subst l1
                      subst l2
                      go_wp2_with fail
                      go_roundg (m - (i + 1))
                      case measure => omega
                      case rel => exact ⟨i + 1, by omega, by omega, by go_num, F9x.out.nix (Fr.indrew h15)⟩
          · have hlti : ¬ (i : Int) < (m : Int) := by omega
            have FZ : Hid (Fr Nix w wr) := F7.out.nix (F9.out.nix H.out)
            go_wp2_with fail
            go_ret
            exact ⟨rfl, FZ.out⟩
      · have hz := turn_zero HTB.out her
        have hte : te = 0 := congrArg Shs.ep hz
        have htl : tl = [] := congrArg Shs.l hz
        have hm7 : m7 = 0 := by rw [M7.out, htl]; rfl
        subst hte
        clear HTB R7 M7 hz htl
        subst hm7
        go_wp2_with fail
        go_ret
        exact ⟨rfl, F7.out.alloc _⟩
end Go.Proofs.Ytpggnelngfpfgaa
