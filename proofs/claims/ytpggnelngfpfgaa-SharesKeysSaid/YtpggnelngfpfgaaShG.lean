/- Walks of package shares: slices.Sort, slices.Compact of numbers; Groups. -/
import Derived.Test.YtpggnelngfpfgaaShY
import Derived.Test.YtpggnelngfpfgaaShR
import Derived.Test.YtpggnelngfpfgaaIntsU
import Derived.Sort.OwnSortedInts
namespace Go.Proofs.Ytpggnelngfpfgaa
open Go.RowKit Go.Sort

abbrev OwnI := Own1 3 (Value.int .i64)
abbrev RdI := Rd1 (Value.int .i64)
theorem infoInt : (Try.prog.info? 3).map (fun i => (i.zero, i.size, i.bytes)) = some (some (.int .i64 0), 1, 8) := by kernel_rfl
theorem grow_frI {w : World} {g n : Nat} {os : Array Obj} (d : Array Int) : Fr (fun k => k = g) w (grow (putRow (Value.int .i64) (Sort.ahead w n) g 0 d) os) :=
  (Fr.of_grown (grownBy_sortedI d)).mono (fun _ _ h => by cases h; rfl)
theorem put_frI {w : World} {g n : Nat} (d : Array Int) : Fr (fun k => k = g) w (putRow (Value.int .i64) (Sort.ahead w n) g 0 d) := by
  have := grow_frI (w := w) (g := g) (n := n) (os := #[]) d
  rwa [grow_empty] at this
theorem own_putI {w : World} {g n cap : Nat} {os : Array Obj} {cur : List Value} {ts rest : List Int} (hb : Blk w g cur 3) (h1 : ts.length + rest.length ≤ cap) (h2 : cap ≤ maxLen) (h3 : cur.length = cap) :
    OwnI (grow (putRow (Value.int .i64) (Sort.ahead w n) g 0 (ts ++ rest).toArray) os) (.slice (some ⟨g, 0, none⟩) ts.length cap) ts := by
  have hh := heap_sortedI (n := n) (os := os) (ts ++ rest).toArray (show w.heap[g]? = some (.cells cur.toArray 3 (0, 0)) from hb)
  have ht := take_putCellsI cur.toArray (ts ++ rest) (by simp; omega)
  refine ⟨by simp, .inr ⟨g, cap, _, rfl, Nat.zero_le _, hh, by omega, h2, by simp [putCells, h3], ?_⟩⟩
  have h4 := congrArg (List.take ts.length) ht
  rw [List.take_take, show min ts.length (ts ++ rest).length = ts.length by simp] at h4
  simp only [Nat.mul_one]
  rw [h4, List.map_append, List.take_append_of_le_length (by simp), List.take_of_length_le (by simp)]
set_option maxRecDepth 100000 in
/-- slices.Sort of numbers. -/
theorem sortI_any (w : World) (v : Value) (zs : List Int) (hlen : zs.length ≤ 1000000000) (ho : OwnI w v zs) :
    Calls Try.prog 50 #[v] w fun e w' => e = .returned (.tuple #[]) ∧ OwnI w' v (sortI zs) ∧ Fr (Foot v) w w' := by
  rcases ho.cases with ⟨rfl, h0⟩ | ⟨g, cap, cur, rfl, hb, h1, h2, h3, h4⟩
  · subst h0
    refine (Try.slices_Sort_int_none none 0 w).mono ?_
    rintro e w' ⟨rfl, rfl⟩
    have : sortI [] = [] := by simp [sortI]
    rw [this]
    exact ⟨rfl, World.ownsRow_nil _ _ _ _, Fr.refl _ _⟩
  · have hH : Holds (Value.int .i64) w g 0 zs.toArray := holds_of_blockI (show w.heap[g]? = some (.cells cur.toArray 3 (0, 0)) from hb) (by simpa using h4)
    simp only [maxLen] at h2
    refine (Try.slices_Sort_int g 0 cap zs w hH hb.lt (by omega)).mono ?_
    rintro e w' ⟨rfl, q, os, rfl⟩
    refine ⟨rfl, ?_, (grow_frI _).mono (fun k _ hk => by rw [hk]; rfl)⟩
    have h := own_putI (n := q) (os := os) (ts := sortI zs) (rest := []) hb (by rw [sortI_length]; simpa using h1) (by simp only [maxLen]; exact h2) h3
    rw [List.append_nil, sortI_length] at h
    exact h
set_option maxRecDepth 100000 in
/-- slices.Compact of numbers. -/
theorem compactI_any (w : World) (v : Value) (zs : List Int) (ho : OwnI w v zs) :
    Calls Try.prog 51 #[v] w fun e w' => ∃ v', e = .returned v' ∧ OwnI w' v' (Go.Lib.compact zs) ∧ v'.ownBlock = v.ownBlock ∧ Fr (Foot v) w w' := by
  rcases ho.cases with ⟨rfl, h0⟩ | ⟨g, cap, cur, rfl, hb, h1, h2, h3, h4⟩
  · subst h0
    refine (Try.slices_Compact_int_empty none 0 w).mono ?_
    rintro e w' ⟨rfl, rfl⟩
    have : Go.Lib.compact ([] : List Int) = [] := List.eq_nil_of_length_eq_zero (by have : (Go.Lib.compact ([] : List Int)).length ≤ 0 := compactUpToI_len _ _; omega)
    rw [this]
    exact ⟨_, rfl, World.ownsRow_nil _ _ _ _, rfl, Fr.refl _ _⟩
  · have hH : Holds (Value.int .i64) w g 0 zs.toArray := holds_of_blockI (show w.heap[g]? = some (.cells cur.toArray 3 (0, 0)) from hb) (by simpa using h4)
    have hm : cap ≤ 9223372036854775807 := by simp only [maxLen] at h2; omega
    refine (Try.slices_Compact_int g 0 cap zs w hH (by omega) h1).mono ?_
    rintro e w' ⟨rfl, q, rfl⟩
    have hl : (Go.Lib.compact zs).length ≤ zs.length := compactUpToI_len _ _
    have o := own_putI (n := q) (os := #[]) (ts := Go.Lib.compact zs) (rest := List.replicate (zs.length - (Go.Lib.compact zs).length) 0) hb (by simp; omega) h2 h3
    rw [grow_empty] at o
    exact ⟨_, rfl, o, rfl, (put_frI _).mono fun k _ hk => by rw [hk]; rfl⟩

def grpB (s : Shs) (k : ByteArray) : Int := ((ofB s k).getD Shr.zero).g
def groupsB (s : Shs) (ks : List ByteArray) : Option (List Int) := if rightS s && ks.all keyB then some (gsU (ks.map (grpB s))) else none
def GroupsTells (w : World) (o : Option (List Int)) (e : Ending) (w' : World) : Prop := ∃ v', e = .returned (.tuple #[v', .bool o.isSome]) ∧ OwnI w' v' (o.getD []) ∧ New w v' ∧ Fr Nix w w'
theorem gtells_none {w w' : World} {o : Option (List Int)} (h : o = none) (hf : Fr Nix w w') : GroupsTells w o (.returned (.tuple #[.slice none 0 0, .bool false])) w' := by
  subst h
  exact ⟨_, rfl, World.ownsRow_nil _ _ _ _, (fun k hk => by cases hk), hf⟩
set_option maxRecDepth 100000 in
set_option maxHeartbeats 8000000 in
/-- The groups of keys. -/
theorem groups_any (w : World) (ep : Int) (v kv : Value) (xs : List Shr) (ks : List ByteArray) (hv : RdSh w v xs) (hl : xs.length ≤ 1000000000) (hk : RdT w kv ks) (hkl : ks.length ≤ 1000000) :
    Calls Try.prog 21 #[.agg #[.int .i64 ep, v], kv] w (GroupsTells w (groupsB ⟨ep, xs⟩ ks)) := by
  obtain ⟨i0, hi0, hz0, hz1, hz2⟩ := info_parts infoInt
  obtain ⟨n, hn⟩ : ∃ n, n = xs.length := ⟨_, rfl⟩
  obtain ⟨m, hm⟩ : ∃ m, m = ks.length := ⟨_, rfl⟩
  obtain ⟨A, c, hvf⟩ : ∃ A c, v = .slice A n c := by obtain ⟨A, c, e⟩ := hv.form; exact ⟨A, c, by rw [hn]; exact e⟩
  obtain ⟨A2, c2, hkf⟩ : ∃ A c, kv = .slice A m c := by obtain ⟨A, c, e⟩ := hk.form; exact ⟨A, c, by rw [hm]; exact e⟩
  subst hvf
  subst hkf
  have HV := Lib.hid hv
  have HK := Lib.hid hk
  have HM := Lib.hid hm
  have hml : m ≤ 1000000 := by omega
  obtain ⟨G, hG⟩ : ∃ G, G = groupsB ⟨ep, xs⟩ ks := ⟨_, rfl⟩
  rw [← hG]
  have HG := Lib.hid hG
  clear hv hk hn hm hG hkl
  go_enter Try.func21, Try.ntmps21
  go_wp2_with fail
  refine (sharesRight_any _ ep (.slice A n c) xs (HV.out.nix ((Fr.refl _ _).alloc _)) hl).mono ?_
  rintro e w1 ⟨rfl, h1⟩
  have a0 : w1.cell? ⟨w.heap.size, 0, none⟩ = some (.int .i64 ep) := h1.cell' (by go_simp)
  have a1 : w1.cell? ⟨w.heap.size, 1, none⟩ = some (.slice A n c) := h1.cell' (by go_simp)
  have F1 : Hid (Fr Nix w w1) := ((Fr.refl _ _).alloc _).nix h1
  clear h1
  cases hr : rightS ⟨ep, xs⟩ with
  | false =>
    have HF : Hid (G = none) := by show _ = _; rw [HG.out, groupsB, hr]; rfl
    clear hr
    go_wp2_with fail
    go_ret2
    exact gtells_none HF.out F1.out
  | true =>
    have HR := Lib.hid hr
    have HG2 : Hid (G = if ks.all keyB then some (gsU (ks.map (grpB ⟨ep, xs⟩))) else none) := by show _ = _; rw [HG.out, groupsB, hr]; rfl
    clear hr HG
    obtain ⟨N0, hN0⟩ : ∃ N0, N0 = w.heap.size := ⟨_, rfl⟩
    rw [← hN0] at a0 a1 ⊢
    clear hN0
    go_wp2_with fail
    go_loopg [6, 16] m (fun gg s6 s16 wr => ∃ (k : Nat) (A : Option Addr) (L c : Nat), k ≤ m ∧ m - k ≤ gg ∧ s16 = .int .i64 k ∧ s6 = .slice A L c ∧ Hid (OwnI wr (.slice A L c) ((ks.take k).map (grpB ⟨ep, xs⟩)) ∧ New w1 (.slice A L c) ∧ Fr Nix w1 wr ∧ (ks.take k).all keyB = true))
    case atStart => exact ⟨0, none, 0, 0, Nat.zero_le _, by omega, rfl, rfl, World.ownsRow_nil _ _ _ _, (fun k hk => by cases hk), Fr.refl _ _, rfl⟩
    case round =>
      obtain ⟨k, A5, L5, c5, hk, hg, rfl, rfl, H⟩ := hrel
      have b0 := H.out.2.2.1.cell' a0
      have b1 := H.out.2.2.1.cell' a1
      have z0 := ups (World.block_lt_of_cell? _ _ b0)
      by_cases hlt : k < m
      · have hlti : (k : Int) < (m : Int) := by omega
        have hltk : k < ks.length := by rw [← HM.out]; exact hlt
        have FW : Hid (Fr Nix w wr) := F1.out.nix H.out.2.2.1
        obtain ⟨_, A', c', e, hrd⟩ := HK.out.nix FW.out
        rw [← HM.out] at e
        simp only [Value.slice.injEq] at e
        obtain ⟨rfl, e2', rfl⟩ := e
        clear e2'
        rcases hrd with h0 | ⟨kb, koff, rfl, hkb, hc⟩
        · rw [h0] at hltk; cases hltk
        have kc := hc k hltk
        clear hc
        have HT : Hid (ks.take (k + 1) = ks.take k ++ [ks[k]]) := List.take_succ_eq_append_getElem hltk
        have HMEM : Hid (ks[k] ∈ ks) := List.getElem_mem hltk
        have HLEN : Hid (((ks.take k).map (grpB ⟨ep, xs⟩)).length = k) := by show _ = _; simp; omega
        generalize ks[k] = key at kc HT HMEM
        have HO := fun W (h : Fr Nix wr W) => Lib.hid (of_any W ep (.slice A n c) xs key (HV.out.nix (FW.out.nix h)) hl)
        cases hkey : keyB key with
        | false =>
          have HF : Hid (G = none) := by
            show _ = _
            rw [HG2.out, if_neg]
            intro h
            have := List.all_eq_true.1 h key HMEM.out
            rw [hkey] at this; cases this
          rw [of_nokey hkey] at HO
          unfold Shr.zero Shr.val at HO
          dsimp only [Option.getD_none, Option.isSome_none] at HO
          clear hkey
          go_wp2_with fail
          refine (HO _ (Fr.refl _ _)).out.mono ?_
          rintro e w2 ⟨rfl, h2⟩
          go_wp2_with fail
          go_ret2
          exact gtells_none HF.out ((FW.out.nix h2).alloc _)
        | true =>
          obtain ⟨a, ha⟩ : ∃ a, ofB ⟨ep, xs⟩ key = some a := by
            have := of_isSome ⟨ep, xs⟩ key
            rw [HR.out, hkey] at this
            exact Option.isSome_iff_exists.1 this
          have HGR : Hid (grpB ⟨ep, xs⟩ key = a.g) := by show _ = _; unfold grpB; rw [ha]; rfl
          rw [ha] at HO
          have HKY := Lib.hid hkey
          unfold Shr.val at HO
          dsimp only [Option.getD_some, Option.isSome_some] at HO
          obtain ⟨alo, ahi, ag, ae⟩ := a
          dsimp only at HO HGR
          clear hkey ha
          go_wp2_with fail
          refine (HO _ (Fr.refl _ _)).out.mono ?_
          rintro e w2 ⟨rfl, h2⟩
          have N1 : Hid (OwnI w2 (.slice A5 L5 c5) ((ks.take k).map (grpB ⟨ep, xs⟩)) ∧ Fr Nix w1 w2) := ⟨H.out.1.mono h2 (fun _ _ h => h), H.out.2.2.1.nix h2⟩
          have hs2 := h2.size
          clear h2 HO b0 b1
          go_wp2_with (at_builtin; refine wp_append rfl _ _ 49 rfl 3 i0 _ 1 8 Try.underlying49 hi0 hz0 hz1 hz2 rfl (by decide) _ ((ks.take k).map (grpB ⟨ep, xs⟩)).length (((ks.take k).map (grpB ⟨ep, xs⟩)).map (Value.int .i64)) rfl ?c1 _ rfl 1 [.int .i64 ag] ?c2 ?c3 ?c4 ?c5)
          case c1 => exact N1.out.1.mono (by repeat (first | exact Fr.refl Nix _ | refine Fr.alloc ?_ _)) (fun _ _ h => h)
          case c2 =>
            have h := (Own1.lit (T := 3) (f := Value.int .i64) (w2.alloc (.cells #[.string alo, .string ahi, .int .i64 ag, .int .i64 ae] 41)) [ag] (by simp)).rd.src (fun _ => rfl)
            simp only [World.size_alloc] at h
            exact h
          case c3 => rw [HLEN.out]; simp only [maxLen]; omega
          case c4 => rw [HLEN.out]; omega
          case c5 =>
            intro v' w' ho' hf hat
            have hs1 := N1.out.2.size
            have N : Hid (OwnI w' v' ((ks.take (k + 1)).map (grpB ⟨ep, xs⟩)) ∧ New w1 v' ∧ Fr Nix w1 w' ∧ (ks.take (k + 1)).all keyB = true) := by
              refine ⟨?_, fun i hi' => ?_, (N1.out.2.nix (by repeat (first | exact Fr.refl Nix _ | refine Fr.alloc ?_ _))).then hf (fun i hi' e => by have := H.out.2.1 i e; omega), ?_⟩
              · rw [HT.out, List.map_append]
                show w'.ownsRow _ _ _ _ _ _
                rw [List.length_append, List.map_append]
                simp only [List.map_cons, List.map_nil, HGR.out]
                simpa using ho'
              · rcases hat with e | e
                · rw [e] at hi'; exact H.out.2.1 i hi'
                · rw [e] at hi'
                  cases hi'
                  first | omega | (simp; omega)
              · rw [HT.out, List.all_append, H.out.2.2.2]
                simp [HKY.out]
            clear ho' hf hat
            obtain ⟨A6, L6, c6, rfl⟩ := N.out.1.rd.form'
            go_wp2_with fail
            go_roundg (m - (k + 1))
            case measure => omega
            case rel => exact ⟨k + 1, A6, L6, c6, by omega, by omega, by go_num, rfl, N.out⟩
      · have hkm : k = m := by omega
        have hlti : ¬ (k : Int) < (m : Int) := by omega
        have hG : Hid (G = some (gsU (ks.map (grpB ⟨ep, xs⟩)))) := by
          have h4 := H.out.2.2.2
          rw [hkm, HM.out, List.take_length] at h4
          exact HG2.out.trans (if_pos h4)
        have OW : Hid (OwnI wr (.slice A5 L5 c5) (ks.map (grpB ⟨ep, xs⟩))) := by
          have h1 := H.out.1
          rw [hkm, HM.out, List.take_length] at h1
          exact h1
        have NW := Lib.hid H.out.2.1
        have FW : Hid (Fr Nix w1 wr) := H.out.2.2.1
        clear H hkm b0 b1
        have HGL : Hid ((ks.map (grpB ⟨ep, xs⟩)).length ≤ 1000000000) := by show _ ≤ _; rw [List.length_map, ← HM.out]; omega
        generalize ks.map (grpB ⟨ep, xs⟩) = gl at hG OW HGL
        go_wp2_with fail
        refine (sortI_any wr (.slice A5 L5 c5) gl HGL.out OW.out).mono ?_
        rintro e w2 ⟨rfl, o2, f2⟩
        have O2 := Lib.hid o2
        have F2 : Hid (Fr Nix w1 w2) := FW.out.then f2 (fun i hi e => by have := NW.out i e; omega)
        clear o2 f2
        go_wp2_with fail
        refine (compactI_any w2 (.slice A5 L5 c5) (sortI gl) O2.out).mono ?_
        rintro e w3 ⟨v3, rfl, o3, e3, f3⟩
        have F3 : Hid (Fr Nix w w3) := F1.out.nix (F2.out.then f3 (fun i hi e => by have := NW.out i e; omega))
        obtain ⟨A6, L6, c6, rfl⟩ := o3.rd.form'
        have O3 := Lib.hid o3
        have N3 : Hid (New w (.slice A6 L6 c6)) := fun i hi => Nat.le_trans F1.out.size (NW.out i (by rw [← e3]; exact hi))
        clear o3 e3 f3
        go_wp2_with fail
        go_ret2
        exact ⟨.slice A6 L6 c6, by rw [hG.out]; rfl, by rw [hG.out]; exact O3.out, N3.out, F3.out⟩
end Go.Proofs.Ytpggnelngfpfgaa
