/- Shares: Clone and Replace of rows of shares. -/
import Derived.Test.YtpggnelngfpfgaaShA
import Derived.Deep.RegionLaw
import Derived.StillTailTactics
import Derived.Deep.RegionWith
import Derived.WalkSpells
namespace Go.Proofs.Ytpggnelngfpfgaa
open Go.RowKit

set_option maxRecDepth 100000 in
set_option maxHeartbeats 1000000 in
theorem cloneSh_any (w : World) (v : Value) (xs : List Shr) (hr : RdSh w v xs) (hB : xs.length ≤ 1000000000) :
    Calls Try.prog 36 #[v] w fun e w' => ∃ v', e = .returned v' ∧ OwnSh w' v' xs ∧ New w v' ∧ Fr Nix w w' := by
  obtain ⟨i0, hi, hz0, hz1, hz2⟩ := info_parts infoSh
  have hs := hr.src
  obtain ⟨hm, A, cap, rfl, hr⟩ := hr
  have he := fun (w : World) (a : Option Addr) (n c : Nat) => Lib.run_eql_slice_nil (P := Try.prog) w 24 41 a n c 0 0 Try.underlying24
  cases A with
  | none =>
    have : xs = [] := by rcases hr with h | ⟨b, off, h, _⟩; exact h; cases h
    subst this
    clear hr hs
    go_enter Try.func36, Try.ntmps36
    go_wp2
    go_ret
    refine ⟨_, rfl, World.ownsRow_nil _ _ _ _, (fun k hk => by cases hk), Fr.refl _ _⟩
  | some ad =>
    have HS := Lib.hid hs
    clear hs hr
    go_enter Try.func36, Try.ntmps36
    go_wp2_with (at_builtin; refine wp_append rfl _ _ 24 rfl 41 i0 _ 4 48 Try.underlying24 hi hz0 hz1 hz2 rfl (by decide) _ 0 [] rfl ?c1 _ rfl xs.length (cSh.cells xs) ?c2 ?c3 ?c4 ?c5)
    case c1 => exact own_empty w _ _
    case c2 => exact HS.out.mono ((Fr.refl Nix _).alloc _) (fun _ _ h => h)
    case c3 => simp only [maxLen]; omega
    case c4 => omega
    case c5 =>
      intro v' w' ho hf hat
      go_wp2
      go_ret
      refine ⟨_, rfl, ?_, ?_, ((Fr.refl Nix _).alloc _).then hf ?_⟩
      · show w'.ownsRow _ _ _ _ _ _
        first | exact ho | simpa using ho
      · intro k hk
        replace hk : v'.ownBlock = some k := hk
        rcases hat with e | e
        · rw [e] at hk; simp [Value.ownBlock] at hk; omega
        · rw [e] at hk; cases hk; omega
      · intro k hk h
        simp [Foot, Value.ownBlock] at h
        omega

set_option maxRecDepth 100000 in
set_option maxHeartbeats 4000000 in
theorem replace_end (w : World) (g cap : Nat) (cur : List Value) (xs ys : List Shr) (u : Value) (k : Nat) (hb : Blk w g cur 41) (h2 : cap ≤ maxLen) (h3 : cur.length = cap * 4) (h4 : cur.take (xs.length * 4) = cSh.cells xs)
    (hu : RdSh w u ys) (hk : k + 1 = xs.length) (hm : 1 ≤ ys.length) (hm' : ys.length ≤ 1000) (hn : xs.length ≤ cap) (hl : xs.length ≤ 1000) :
    Calls Try.prog 35 #[.slice (some ⟨g, 0, none⟩) xs.length cap, .int .i64 (k : Nat), .int .i64 ((k : Int) + 1), u] w fun e w' =>
      ∃ v', e = .returned v' ∧ OwnSh w' v' (xs.take k ++ (ys ++ xs.drop (k + 1))) ∧ Fr (fun i => i = g) w w' ∧ (v'.ownBlock = some g ∨ v'.ownBlock = some w.heap.size) := by
  obtain ⟨i0, hi, hz0, hz1, hz2⟩ := info_parts infoSh
  have HO : Hid (w.ownsRow 0 41 4 (.slice (some ⟨g, 0, none⟩) k cap) k (cSh.cells (xs.take k))) := by
    have hl : (xs.take k).length = k := by rw [List.length_take]; omega
    have := OwnC.of_blk (C := cSh) (xs := xs.take k) hb (by rw [hl]; omega) h2 h3 (by rw [hl]; exact cSh.cells_take (by omega) h4)
    rw [hl] at this
    have h' : w.ownsRow 0 41 4 (.slice (some ⟨g, 0, none⟩) k cap) (xs.take k).length (cSh.cells (xs.take k)) := this
    rw [hl] at h'
    exact h'
  have HS := Lib.hid hu.src
  obtain ⟨R, hR⟩ : ∃ R, R = xs.take k ++ (ys ++ xs.drop (k + 1)) := ⟨_, rfl⟩
  rw [← hR]
  have hT : Hid (R = xs.take k ++ ys) := by show _ = _; rw [hR, List.drop_eq_nil_of_le (by omega), List.append_nil]
  obtain ⟨A, c, rfl⟩ := hu.form
  clear hu hb h3 h4 hR
  have hki : (k : Int) + 1 = (xs.length : Int) := by omega
  have q1 : k + 1 ≤ cap := by omega
  have q2 : ¬ cap = k := by omega
  have q3 : (k : Int) ≤ (cap : Int) := by omega
  have q4 : (k : Int) + 1 ≤ (cap : Int) := by omega
  have q5 : ¬ (k : Int) = (k : Int) + 1 := by omega
  go_enter Try.func35, Try.ntmps35
  go_wp2_with (at_builtin; refine wp_append rfl _ _ 24 rfl 41 i0 _ 4 48 Try.underlying24 hi hz0 hz1 hz2 rfl (by decide) _ k (cSh.cells (xs.take k)) rfl ?c1 _ rfl ys.length (cSh.cells ys) ?c2 ?c3 ?c4 ?c5)
  case c1 => exact HO.out
  case c2 => exact HS.out
  case c3 => simp only [maxLen]; omega
  case c4 => omega
  case c5 =>
    intro v' w' ho hf hat
    have N : Hid (OwnSh w' v' R ∧ Fr (fun i => i = g) w w' ∧ (v'.ownBlock = some g ∨ v'.ownBlock = some w.heap.size)) := by
      refine ⟨?_, hf.mono (fun i _ h => by cases h; rfl), hat⟩
      rw [hT.out]
      show w'.ownsRow _ _ _ _ _ _
      rw [Cod.cells_append, List.length_append, show (xs.take k).length = k by rw [List.length_take]; omega]
      exact ho
    obtain ⟨A', c', rfl⟩ : ∃ A' c', v' = .slice A' (k + ys.length) c' := by
      obtain ⟨_, h⟩ := ho
      rcases h with ⟨rfl, h0⟩ | ⟨g', cap', cur', rfl, _⟩
      · rw [h0]; exact ⟨_, _, rfl⟩
      · exact ⟨_, _, rfl⟩
    clear ho hf hat
    have q6 : ¬ ((k : Int) + (ys.length : Int)) < (xs.length : Int) := by omega
    have q7 : ¬ (((k + ys.length : Nat) : Int)) < (xs.length : Int) := by omega
    go_wp2_with fail
    go_ret
    exact ⟨_, rfl, N.out⟩

theorem szSh : (Try.prog.info? 41).map (·.size) = some 4 := by kernel_rfl
theorem zeroSh : (Try.prog.info? 41).map (fun i => (i.zero, i.size)) = some (some (.agg #[.string ⟨#[]⟩, .string ⟨#[]⟩, .int .i64 0, .int .i64 0]), 4) := by kernel_rfl
theorem sizeSh (w : World) : (Go.sizeOf 41).run Try.prog w = .ok 4 w := by kernel_rfl
set_option maxRecDepth 100000 in
theorem overlapsSh_no (w : World) (B g : Nat) (cs cur : List Value) (T T' : TypeId) (hB : Blk w B cs T) (hg : Blk w g cur T') (hne : B ≠ g) (h0 : cur.length ≠ 0) (off off' la ca lb cb : Nat) :
    (callFunc 69 #[.slice (some ⟨B, off', none⟩) la ca, .slice (some ⟨g, off, none⟩) lb cb]).run Try.prog w = .ok (.value (.bool false)) w := by
  rw [run_callFunc_extern Try.func69 (by kernel_rfl) (by kernel_rfl) (by kernel_rfl) (e := Extern.SlicesOverlaps.overlaps #[24, 24] #[4]) (by kernel_rfl),
    Lib.run_overlaps_apart w 24 4 41 Try.underlying24 4 sizeSh ⟨B, off', none⟩ ⟨g, off, none⟩ la ca lb cb hne T T' cs.length cur.length hB.shape hg.shape h0 (hB.frozen _) (hB.frozen _)]
  rfl

/-- A block that holds xs, then one of them made ys: the cells behind the two copies. -/
theorem room_cells {cur : List Value} {xs ys : List Shr} {k cap : Nat} (h3 : cur.length = cap * 4) (h4 : cur.take (xs.length * 4) = cSh.cells xs) (hk : k + 1 ≤ xs.length) (hroom : xs.length + ys.length ≤ cap + 1) :
    (splice (splice cur ((k + ys.length) * 4) (cSh.cells (xs.drop (k + 1)))) (k * 4) (cSh.cells ys)).take ((xs.take k ++ (ys ++ xs.drop (k + 1))).length * 4) = cSh.cells (xs.take k ++ (ys ++ xs.drop (k + 1))) := by
  have hd : (cSh.cells (xs.drop (k + 1))).length = (xs.length - (k + 1)) * 4 := by rw [Cod.cells_length, List.length_drop]; rfl
  have hy : (cSh.cells ys).length = ys.length * 4 := by rw [Cod.cells_length]; rfl
  have ht := splice_two cur (cSh.cells (xs.drop (k + 1))) (cSh.cells ys) (k * 4) (ys.length * 4) hy (by rw [hd, h3]; omega)
  have hT : cur.take (k * 4) = cSh.cells (xs.take k) := cSh.cells_take (by omega) h4
  rw [← Nat.add_mul] at ht
  rw [hd, ← Nat.add_mul, hT] at ht
  have hlen : (xs.take k ++ (ys ++ xs.drop (k + 1))).length = k + ys.length + (xs.length - (k + 1)) := by simp; omega
  rw [hlen, ht, Cod.cells_append, Cod.cells_append, List.append_assoc]
set_option maxRecDepth 100000 in
set_option maxHeartbeats 4000000 in
/-- Where there is room: two copies in one block. -/
theorem replace_room (w : World) (g cap : Nat) (cur : List Value) (xs ys : List Shr) (B cB : Nat) (csB : List Value) (k : Nat) (hb : Blk w g cur 41) (h2 : cap ≤ maxLen) (h3 : cur.length = cap * 4) (h4 : cur.take (xs.length * 4) = cSh.cells xs)
    (hu : Blk w B csB 41) (hu4 : csB.take (ys.length * 4) = cSh.cells ys) (hne : g ≠ B) (hk : k + 1 < xs.length) (hm : 2 ≤ ys.length) (hm' : ys.length ≤ 1000) (hn : xs.length ≤ cap) (hl : xs.length ≤ 1000) (hroom : xs.length + ys.length ≤ cap + 1) :
    Calls Try.prog 35 #[.slice (some ⟨g, 0, none⟩) xs.length cap, .int .i64 (k : Nat), .int .i64 ((k : Int) + 1), .slice (some ⟨B, 0, none⟩) ys.length cB] w fun e w' =>
      ∃ v', e = .returned v' ∧ OwnSh w' v' (xs.take k ++ (ys ++ xs.drop (k + 1))) ∧ Fr (fun i => i = g) w w' ∧ (v'.ownBlock = some g ∨ v'.ownBlock = some w.heap.size) := by
  obtain ⟨R, hR⟩ : ∃ R, R = xs.take k ++ (ys ++ xs.drop (k + 1)) := ⟨_, rfl⟩
  rw [← hR]
  obtain ⟨n, hnn⟩ : ∃ n, n = xs.length := ⟨_, rfl⟩
  obtain ⟨m, hmm⟩ : ∃ m, m = ys.length := ⟨_, rfl⟩
  obtain ⟨T, hT⟩ : ∃ T, T = k + m + (n - (k + 1)) := ⟨_, rfl⟩
  have hlen : R.length = T := by rw [hR, hT, hnn, hmm]; simp; omega
  have RUN : ∀ q, ∃ w2 w3, (callFunc 69 #[.slice (some ⟨g, (k + m) * 4, none⟩) (T - (k + m)) (cap - (k + m)), .slice (some ⟨B, 0, none⟩) m cB]).run Try.prog (w.drewN q) = .ok (.value (.bool false)) (w.drewN q) ∧
      (Builtin.copy_ #[24, 24] 3 #[.slice (some ⟨g, (k + m) * 4, none⟩) (T - (k + m)) (cap - (k + m)), .slice (some ⟨g, (k + 1) * 4, none⟩) (n - (k + 1)) (cap - (k + 1))]).run Try.prog (w.drewN q).drew = .ok (goInt (Nat.min (n - (k + 1)) (T - (k + m)))) w2 ∧
      (Builtin.copy_ #[24, 24] 3 #[.slice (some ⟨g, k * 4, none⟩) (T - k) (cap - k), .slice (some ⟨B, 0, none⟩) m cB]).run Try.prog w2 = .ok (goInt (Nat.min m (T - k))) w3 ∧
      OwnSh w3 (.slice (some ⟨g, 0, none⟩) T cap) R ∧ Fr (fun i => i = g) w w3 := by
    intro q
    have hbq : Blk (w.drewN q) g cur 41 := hb
    have huq : Blk (w.drewN q) B csB 41 := hu
    have hbd : Blk (w.drewN q).drew g cur 41 := hb
    have hcs0 : csB.length ≠ 0 := by
      intro h
      rw [List.eq_nil_of_length_eq_zero h] at hu4
      have := congrArg List.length hu4
      rw [Cod.cells_length] at this
      simp [cSh] at this
      omega
    have hov := overlapsSh_no (w.drewN q) g B cur csB _ _ hbq huq hne hcs0 0 ((k + m) * 4) (T - (k + m)) (cap - (k + m)) m cB
    have hdl : (cSh.cells (xs.drop (k + 1))).length = (n - (k + 1)) * 4 := by rw [Cod.cells_length, List.length_drop, hnn]; rfl
    have hyl : (cSh.cells ys).length = m * 4 := by rw [Cod.cells_length, hmm]; rfl
    have hmin1 : Nat.min (n - (k + 1)) (T - (k + m)) = n - (k + 1) := Nat.min_eq_left (by omega)
    have hmin2 : Nat.min m (T - k) = m := Nat.min_eq_left (by omega)
    obtain ⟨w2, hr2, hb2, hf2⟩ := run_copy_blk (P := Try.prog) (w := (w.drewN q).drew) (dT := 24) (sT := 24) (ty := 3) (dl := T - (k + m)) (dc := cap - (k + m)) (off := (k + m) * 4) (m := n - (k + 1)) (c := cap - (k + 1)) Try.underlying24 szSh hbd
      (cs := cSh.cells (xs.drop (k + 1))) (ad := ⟨g, (k + 1) * 4, none⟩) (by rw [hmin1]; exact hdl) (fun j u hu => by rw [addr_add, hbd.cell]; exact cSh.cells_drop (by omega) h4 j u hu) (by rw [hdl, h3]; omega) (cSh.cells_one _)
    have hsl : (splice cur ((k + m) * 4) (cSh.cells (xs.drop (k + 1)))).length = cap * 4 := by rw [length_splice _ _ _ (by rw [hdl, h3]; omega), h3]
    have hsB : Blk w2 B csB 41 := (show Blk (w.drewN q).drew B _ _ from hu).mono hf2 (fun h => hne h.symm)
    obtain ⟨w3, hr3, hb3, hf3⟩ := run_copy_blk (P := Try.prog) (w := w2) (dT := 24) (sT := 24) (ty := 3) (dl := T - k) (dc := cap - k) (off := k * 4) (m := m) (c := cB) Try.underlying24 szSh hb2
      (cs := cSh.cells ys) (ad := ⟨B, 0, none⟩) (by rw [hmin2]; exact hyl) (fun j u hu => by
        rw [addr_add, Nat.zero_add, hsB.cell]
        rw [← hu4, List.getElem?_take] at hu
        split at hu
        · exact hu
        · cases hu) (by rw [hsl, hyl]; omega) (cSh.cells_one _)
    refine ⟨w2, w3, hov, hr2, hr3, ?_, (((Fr.refl (fun i => i = g) w).drewN q).drew.trans hf2).trans hf3⟩
    have := OwnC.of_blk (C := cSh) (xs := R) hb3 (by rw [hlen]; omega) h2 (by rw [length_splice _ _ _ (by rw [hsl, hyl]; omega), hsl]; rfl) (by
      have hc := room_cells (ys := ys) (k := k) h3 h4 (by omega) (by omega)
      rw [← hR, ← hmm] at hc
      exact hc)
    rw [hlen] at this
    exact this
  have HRUN := Lib.hid RUN
  clear RUN hb hu h3 h4 hu4 hlen hR
  have q1 : k + 1 ≤ cap := by omega
  have q2 : ¬ cap = k := by omega
  have q2' : ¬ cap = k + 1 := by omega
  have q2'' : ¬ cap = k + m := by omega
  have q3 : (k : Int) ≤ (cap : Int) := by omega
  have q4 : (k : Int) + 1 ≤ (cap : Int) := by omega
  have q4' : (k : Int) + 1 ≤ (n : Int) := by omega
  have q5 : ¬ (k : Int) = (k : Int) + 1 := by omega
  have q6 : ¬ (k : Int) + 1 = (n : Int) := by omega
  have hTi : (k : Int) + (m : Int) + ((n - (k + 1) : Nat) : Int) = (T : Int) := by omega
  have q7 : ¬ (cap : Int) < (T : Int) := by omega
  have q8 : (T : Int) ≤ (cap : Int) := by omega
  have q9 : ¬ (k : Int) + (m : Int) ≤ (k : Int) + 1 := by omega
  have q10 : (k : Int) + (m : Int) ≤ (T : Int) := by omega
  have q11 : ((k : Int) + (m : Int)).toNat = k + m := by omega
  have q12 : ((k : Int) + 1).toNat = k + 1 := by omega
  have q13 : T ≤ cap := by omega
  have q14 : k + m ≤ T := by omega
  have q15 : (k : Int) ≤ (T : Int) := by omega
  have q16 : k ≤ T := by omega
  have q17 : (0 : Int) ≤ (k : Int) + (m : Int) := by omega
  have q19 : (0 : Int) ≤ (k : Int) + 1 := by omega
  have q20 : k + 1 ≤ n := by omega
  have q18 : IntKind.i64.wrap ((k : Int) + (m : Int)) = (k : Int) + (m : Int) := IntWalk.i64_in _ (by omega)
  rw [← hnn, ← hmm]
  rw [← hnn] at hk hn hl hroom
  rw [← hmm] at hm hm' hroom
  have HD := Lib.hid (And.intro hnn (And.intro hmm hT))
  clear hnn hmm hT
  go_enter Try.func35, Try.ntmps35
  go_wp2_with fail
  go_quiet (fail)
  rename_i nq
  obtain ⟨w2, w3, hov, hr2, hr3, ho, hf⟩ := HRUN.out nq
  have HR2 := Lib.hid hr2
  have HR3 := Lib.hid hr3
  have FIN := Lib.hid (And.intro ho hf)
  clear hr2 hr3 ho hf HRUN
  go_wp2_with fail
  go_still_tail 9, (by kernel_rfl)
  change wpList _ _ _ _ _ (w.drewN nq).drew
  refine wp_copy_run rfl (.tmp 126) (.tmp 129) _ _ rfl (.slice (some ⟨g, (k + m) * 4, none⟩) (T - (k + m)) (cap - (k + m))) (.slice (some ⟨g, (k + 1) * 4, none⟩) (n - (k + 1)) (cap - (k + 1))) (by simp [Act.eval]) (by simp [Act.eval]) _ _ HR2.out ?_
  go_wp2_with (refine wp_copy_run rfl _ _ _ _ rfl _ _ rfl rfl _ _ HR3.out ?_)
  go_ret
  exact ⟨_, rfl, FIN.out.1, FIN.out.2, .inl rfl⟩
set_option maxRecDepth 100000 in
set_option maxHeartbeats 4000000 in
/-- Where there is no room: a new block. -/
theorem replace_grow (w : World) (g cap : Nat) (cur : List Value) (xs ys : List Shr) (B cB : Nat) (csB : List Value) (k : Nat) (hb : Blk w g cur 41) (h2 : cap ≤ maxLen) (h3 : cur.length = cap * 4) (h4 : cur.take (xs.length * 4) = cSh.cells xs)
    (hu : Blk w B csB 41) (hu4 : csB.take (ys.length * 4) = cSh.cells ys) (hne : g ≠ B) (hk : k + 1 < xs.length) (hm : 1 ≤ ys.length) (hm' : ys.length ≤ 1000) (hn : xs.length ≤ cap) (hl : xs.length ≤ 1000) (hroom : cap + 1 < xs.length + ys.length) :
    Calls Try.prog 35 #[.slice (some ⟨g, 0, none⟩) xs.length cap, .int .i64 (k : Nat), .int .i64 ((k : Int) + 1), .slice (some ⟨B, 0, none⟩) ys.length cB] w fun e w' =>
      ∃ v', e = .returned v' ∧ OwnSh w' v' (xs.take k ++ (ys ++ xs.drop (k + 1))) ∧ Fr (fun i => i = g) w w' ∧ (v'.ownBlock = some g ∨ v'.ownBlock = some w.heap.size) := by
  obtain ⟨R, hR⟩ : ∃ R, R = xs.take k ++ (ys ++ xs.drop (k + 1)) := ⟨_, rfl⟩
  rw [← hR]
  obtain ⟨n, hnn⟩ : ∃ n, n = xs.length := ⟨_, rfl⟩
  obtain ⟨m, hmm⟩ : ∃ m, m = ys.length := ⟨_, rfl⟩
  obtain ⟨T, hT⟩ : ∃ T, T = k + m + (n - (k + 1)) := ⟨_, rfl⟩
  have hlen : R.length = T := by rw [hR, hT, hnn, hmm]; simp; omega
  have hbl : ∀ (j : Nat) (u : Value), (cSh.cells (xs.take k))[j]? = some u → cur[j]? = some u := by
    intro j u hu
    rw [← cSh.cells_take (by omega) h4, List.getElem?_take] at hu
    split at hu
    · exact hu
    · cases hu
  have RUN : ∀ q, ∃ w1 cap1 w2 w3, (Builtin.append_ #[24, 3] 24 #[.slice (some ⟨g, 0, none⟩) k cap, .int .i64 ((T : Int) - (k : Int))]).run Try.prog (w.drewN q) = .ok (.slice (some ⟨w.heap.size, 0, none⟩) T cap1) w1 ∧
      (Builtin.copy_ #[24, 24] 3 #[.slice (some ⟨w.heap.size, k * 4, none⟩) (T - k) (cap1 - k), .slice (some ⟨B, 0, none⟩) m cB]).run Try.prog w1 = .ok (goInt (Nat.min m (T - k))) w2 ∧
      (Builtin.copy_ #[24, 24] 3 #[.slice (some ⟨w.heap.size, (k + m) * 4, none⟩) (T - (k + m)) (cap1 - (k + m)), .slice (some ⟨g, (k + 1) * 4, none⟩) (n - (k + 1)) (cap - (k + 1))]).run Try.prog w2.drew = .ok (goInt (Nat.min (n - (k + 1)) (T - (k + m)))) w3 ∧
      T ≤ cap1 ∧ cap1 ≤ maxLen ∧ OwnSh w3 (.slice (some ⟨w.heap.size, 0, none⟩) T cap1) R ∧ Fr Nix w w3 := by
    intro q
    have hbq : Blk (w.drewN q) g cur 41 := hb
    have huq : Blk (w.drewN q) B csB 41 := hu
    obtain ⟨w1, cap1, cur1, hr1, hb1, hc1, hm1, hl1, ht1, hf1⟩ := run_zeros_blk (P := Try.prog) (w := w.drewN q) (t := 24) (tn := 3) (ty := 24) (e := 41) (kn := .i64) Try.underlying24 Try.underlying3 infoSh rfl (by decide)
      (n := k) (cap := cap) (k := T - k) (olds := cSh.cells (xs.take k)) (g := g) (fun j u hu => by rw [addr_add, Nat.zero_add, hbq.cell]; exact hbl j u hu) (by rw [Cod.cells_length, List.length_take, Nat.min_eq_left (by omega)]; rfl) (by omega) (by omega) (by omega) (by omega)
    rw [show k + (T - k) = T by omega] at hr1 hc1
    rw [show ((T - k : Nat) : Int) = (T : Int) - (k : Int) by omega] at hr1
    change Blk w1 w.heap.size cur1 _ at hb1
    change (Builtin.append_ _ _ _).run _ _ = Result.ok (.slice (some ⟨w.heap.size, 0, none⟩) T cap1) w1 at hr1
    have hne1 : g ≠ w.heap.size := Nat.ne_of_lt hb.lt
    have hne2 : B ≠ w.heap.size := Nat.ne_of_lt hu.lt
    have hdl : (cSh.cells (xs.drop (k + 1))).length = (n - (k + 1)) * 4 := by rw [Cod.cells_length, List.length_drop, hnn]; rfl
    have hyl : (cSh.cells ys).length = m * 4 := by rw [Cod.cells_length, hmm]; rfl
    have hmin1 : Nat.min (n - (k + 1)) (T - (k + m)) = n - (k + 1) := Nat.min_eq_left (by omega)
    have hmin2 : Nat.min m (T - k) = m := Nat.min_eq_left (by omega)
    have hsB : Blk w1 B csB 41 := huq.mono hf1 (fun h => h)
    have hsg : Blk w1 g cur 41 := hbq.mono hf1 (fun h => h)
    obtain ⟨w2, hr2, hb2, hf2⟩ := run_copy_blk (P := Try.prog) (w := w1) (dT := 24) (sT := 24) (ty := 3) (dl := T - k) (dc := cap1 - k) (off := k * 4) (m := m) (c := cB) Try.underlying24 szSh hb1
      (cs := cSh.cells ys) (ad := ⟨B, 0, none⟩) (by rw [hmin2]; exact hyl) (fun j u hu => by
        rw [addr_add, Nat.zero_add, hsB.cell]
        rw [← hu4, List.getElem?_take] at hu
        split at hu
        · exact hu
        · cases hu) (by rw [hl1, hyl]; omega) (cSh.cells_one _)
    have hsl : (splice cur1 (k * 4) (cSh.cells ys)).length = cap1 * 4 := by rw [length_splice _ _ _ (by rw [hyl, hl1]; omega), hl1]
    have hsg2 : Blk w2.drew g cur 41 := (show Blk w2 g cur _ from hsg.mono hf2 (fun h => hne1 h))
    have hb2' : Blk w2.drew w.heap.size (splice cur1 (k * 4) (cSh.cells ys)) 41 := hb2
    obtain ⟨w3, hr3, hb3, hf3⟩ := run_copy_blk (P := Try.prog) (w := w2.drew) (dT := 24) (sT := 24) (ty := 3) (dl := T - (k + m)) (dc := cap1 - (k + m)) (off := (k + m) * 4) (m := n - (k + 1)) (c := cap - (k + 1)) Try.underlying24 szSh hb2'
      (cs := cSh.cells (xs.drop (k + 1))) (ad := ⟨g, (k + 1) * 4, none⟩) (by rw [hmin1]; exact hdl) (fun j u hu => by rw [addr_add, hsg2.cell]; exact cSh.cells_drop (by omega) h4 j u hu) (by rw [hdl, hsl]; omega) (cSh.cells_one _)
    refine ⟨w1, cap1, w2, w3, hr1, hr2, hr3, hc1, hm1, ?_, ((((Fr.refl Nix w).drewN q).nix hf1).then hf2 (fun i hi h => by omega)).drew.then hf3 (fun i hi h => by omega)⟩
    have e1 := splice_take (cs := cSh.cells ys) ht1 (by rw [hl1]; omega)
    rw [hyl, ← Nat.add_mul] at e1
    have e2 := splice_take (cs := cSh.cells (xs.drop (k + 1))) e1 (by rw [hsl]; omega)
    rw [hdl, ← Nat.add_mul, ← hT] at e2
    have := OwnC.of_blk (C := cSh) (xs := R) hb3 (by rw [hlen]; exact hc1) hm1 (by rw [length_splice _ _ _ (by rw [hdl, hsl]; omega), hsl]; rfl) (by
      rw [hlen, hR, Cod.cells_append, Cod.cells_append, ← List.append_assoc]
      exact e2)
    rw [hlen] at this
    exact this
  have HRUN := Lib.hid RUN
  clear RUN hb hu h3 h4 hu4 hlen hR hbl
  have q1 : k + 1 ≤ cap := by omega
  have q2 : ¬ cap = k := by omega
  have q2' : ¬ cap = k + 1 := by omega
  have q3 : (k : Int) ≤ (cap : Int) := by omega
  have q4 : (k : Int) + 1 ≤ (cap : Int) := by omega
  have q4' : (k : Int) + 1 ≤ (n : Int) := by omega
  have q5 : ¬ (k : Int) = (k : Int) + 1 := by omega
  have q6 : ¬ (k : Int) + 1 = (n : Int) := by omega
  have hTi : (k : Int) + (m : Int) + ((n - (k + 1) : Nat) : Int) = (T : Int) := by omega
  have q7 : (cap : Int) < (T : Int) := by omega
  have q10 : (k : Int) + (m : Int) ≤ (T : Int) := by omega
  have q11 : ((k : Int) + (m : Int)).toNat = k + m := by omega
  have q12 : ((k : Int) + 1).toNat = k + 1 := by omega
  have q14 : k + m ≤ T := by omega
  have q15 : (k : Int) ≤ (T : Int) := by omega
  have q16 : k ≤ T := by omega
  have q17 : (0 : Int) ≤ (k : Int) + (m : Int) := by omega
  have q19 : (0 : Int) ≤ (k : Int) + 1 := by omega
  have q20 : k + 1 ≤ n := by omega
  have q18 : IntKind.i64.wrap ((k : Int) + (m : Int)) = (k : Int) + (m : Int) := IntWalk.i64_in _ (by omega)
  rw [← hnn, ← hmm]
  rw [← hnn] at hk hn hl hroom
  rw [← hmm] at hm hm' hroom
  have HD := Lib.hid (And.intro hnn (And.intro hmm hT))
  clear hnn hmm hT
  go_enter Try.func35, Try.ntmps35
  go_wp2_with fail
  go_quiet (fail)
  rename_i nq
  obtain ⟨w1, cap1, w2, w3, hr1, hr2, hr3, hc1, hm1, ho, hf⟩ := HRUN.out nq
  have HR1 := Lib.hid hr1
  have HR2 := Lib.hid hr2
  have HR3 := Lib.hid hr3
  have FIN := Lib.hid (And.intro ho hf)
  clear hr1 hr2 hr3 ho hf HRUN
  simp only [maxLen] at hm1
  have r1 : ¬ cap1 = k := by omega
  have r2 : ¬ cap1 = k + m := by omega
  have r3 : k ≤ cap1 := by omega
  have r4 : k + m ≤ cap1 := by omega
  go_wp2_with (first | (refine Lib.wpList_append_run _ rfl _ _ _ _ rfl _ _ rfl rfl _ _ HR1.out ?_) | (refine wp_copy_run rfl _ _ _ _ rfl _ _ rfl rfl _ _ HR2.out ?_))
  go_still_tail 9, (by kernel_rfl)
  change wpList _ _ _ _ _ w2.drew
  refine wp_copy_run rfl (.tmp 78) (.tmp 81) _ _ rfl (.slice (some ⟨w.heap.size, (k + m) * 4, none⟩) (T - (k + m)) (cap1 - (k + m))) (.slice (some ⟨g, (k + 1) * 4, none⟩) (n - (k + 1)) (cap - (k + 1))) (by simp [Act.eval]) (by simp [Act.eval]) _ _ HR3.out ?_
  go_wp2_with fail
  go_ret
  exact ⟨_, rfl, FIN.out.1, FIN.out.2.any, .inr rfl⟩
end Go.Proofs.Ytpggnelngfpfgaa
