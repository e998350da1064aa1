/- Shares: Replace of one by one; Replace at large. -/
import Derived.Test.YtpggnelngfpfgaaShP
namespace Go.Proofs.Ytpggnelngfpfgaa
open Go.RowKit

set_option maxRecDepth 100000 in
set_option maxHeartbeats 4000000 in
/-- One for one. -/
theorem replace_one (w : World) (g cap : Nat) (cur : List Value) (xs ys : List Shr) (B cB : Nat) (csB : List Value) (k : Nat) (hb : Blk w g cur 41) (h2 : cap ≤ maxLen) (h3 : cur.length = cap * 4) (h4 : cur.take (xs.length * 4) = cSh.cells xs)
    (hu : Blk w B csB 41) (hu4 : csB.take (ys.length * 4) = cSh.cells ys) (hne : g ≠ B) (hk : k + 1 < xs.length) (hm : ys.length = 1) (hn : xs.length ≤ cap) (hl : xs.length ≤ 1000) :
    Calls Try.prog 35 #[.slice (some ⟨g, 0, none⟩) xs.length cap, .int .i64 (k : Nat), .int .i64 ((k : Int) + 1), .slice (some ⟨B, 0, none⟩) 1 cB] w fun e w' =>
      ∃ v', e = .returned v' ∧ OwnSh w' v' (xs.take k ++ (ys ++ xs.drop (k + 1))) ∧ Fr (fun i => i = g) w w' ∧ (v'.ownBlock = some g ∨ v'.ownBlock = some w.heap.size) := by
  obtain ⟨R, hR⟩ : ∃ R, R = xs.take k ++ (ys ++ xs.drop (k + 1)) := ⟨_, rfl⟩
  rw [← hR]
  obtain ⟨n, hnn⟩ : ∃ n, n = xs.length := ⟨_, rfl⟩
  have hlen : R.length = n := by rw [hR, hnn]; simp; omega
  have hTi : k + 1 + (n - (k + 1)) = n := by omega
  have RUN : ∀ q, ∃ w2 w3, (Builtin.copy_ #[24, 24] 3 #[.slice (some ⟨g, k * 4, none⟩) (n - k) (cap - k), .slice (some ⟨B, 0, none⟩) 1 cB]).run Try.prog (w.drewN q) = .ok (goInt (Nat.min 1 (n - k))) w2 ∧
      (Builtin.copy_ #[24, 24] 3 #[.slice (some ⟨g, (k + 1) * 4, none⟩) (n - (k + 1)) (cap - (k + 1)), .slice (some ⟨g, (k + 1) * 4, none⟩) (n - (k + 1)) (cap - (k + 1))]).run Try.prog w2.drew = .ok (goInt (Nat.min (n - (k + 1)) (n - (k + 1)))) w3 ∧
      OwnSh w3 (.slice (some ⟨g, 0, none⟩) n cap) R ∧ Fr (fun i => i = g) w w3 := by
    intro q
    have hbq : Blk (w.drewN q) g cur 41 := hb
    have huq : Blk (w.drewN q) B csB 41 := hu
    have hdl : (cSh.cells (xs.drop (k + 1))).length = (n - (k + 1)) * 4 := by rw [Cod.cells_length, List.length_drop, hnn]; rfl
    have hyl : (cSh.cells ys).length = 1 * 4 := by rw [Cod.cells_length, hm]; rfl
    have hmin1 : Nat.min (n - (k + 1)) (n - (k + 1)) = n - (k + 1) := Nat.min_self _
    have hmin2 : Nat.min 1 (n - k) = 1 := Nat.min_eq_left (by omega)
    obtain ⟨w2, hr2, hb2, hf2⟩ := run_copy_blk (P := Try.prog) (w := w.drewN q) (dT := 24) (sT := 24) (ty := 3) (dl := n - k) (dc := cap - k) (off := k * 4) (m := 1) (c := cB) Try.underlying24 szSh hbq
      (cs := cSh.cells ys) (ad := ⟨B, 0, none⟩) (by rw [hmin2]; exact hyl) (fun j u hu => by
        rw [addr_add, Nat.zero_add, huq.cell]
        rw [← hu4, List.getElem?_take] at hu
        split at hu
        · exact hu
        · cases hu) (by rw [h3, hyl]; omega) (cSh.cells_one _)
    have hsl : (splice cur (k * 4) (cSh.cells ys)).length = cap * 4 := by rw [length_splice _ _ _ (by rw [hyl, h3]; omega), h3]
    have hb2' : Blk w2.drew g (splice cur (k * 4) (cSh.cells ys)) 41 := hb2
    have hkeep : ∀ (j : Nat) (u : Value), (cSh.cells (xs.drop (k + 1)))[j]? = some u → (splice cur (k * 4) (cSh.cells ys))[(k + 1) * 4 + j]? = some u := by
      intro j u hu
      have h0 := cSh.cells_drop (cur := cur) (i := k + 1) (by omega) h4 j u hu
      have h0 : cur[(k + 1) * 4 + j]? = some u := h0
      rw [splice, List.getElem?_append_right (by simp; omega)]
      rw [List.length_take, Nat.min_eq_left (by rw [h3]; omega), List.getElem?_append_right (by rw [hyl]; omega), hyl, List.getElem?_drop]
      rw [← h0]
      congr 1
      omega
    obtain ⟨w3, hr3, hb3, hf3⟩ := run_copy_blk (P := Try.prog) (w := w2.drew) (dT := 24) (sT := 24) (ty := 3) (dl := n - (k + 1)) (dc := cap - (k + 1)) (off := (k + 1) * 4) (m := n - (k + 1)) (c := cap - (k + 1)) Try.underlying24 szSh hb2'
      (cs := cSh.cells (xs.drop (k + 1))) (ad := ⟨g, (k + 1) * 4, none⟩) (by rw [hmin1]; exact hdl) (fun j u hu => by rw [addr_add, hb2'.cell]; exact hkeep j u hu) (by rw [hdl, hsl]; omega) (cSh.cells_one _)
    refine ⟨w2, w3, hr2, hr3, ?_, ((((Fr.refl (fun i => i = g) w).drewN q).trans hf2).drew).trans hf3⟩
    have ht0 : cur.take (k * 4) = cSh.cells (xs.take k) := cSh.cells_take (by omega) h4
    have e1 := splice_take (cs := cSh.cells ys) ht0 (by rw [h3]; omega)
    rw [hyl, ← Nat.add_mul] at e1
    have e2 := splice_take (cs := cSh.cells (xs.drop (k + 1))) e1 (by rw [hsl]; omega)
    rw [hdl, ← Nat.add_mul, hTi] at e2
    have := OwnC.of_blk (C := cSh) (xs := R) hb3 (by rw [hlen]; omega) h2 (by rw [length_splice _ _ _ (by rw [hdl, hsl]; omega), hsl]; rfl) (by
      rw [hlen, hR, Cod.cells_append, Cod.cells_append, ← List.append_assoc]
      exact e2)
    rw [hlen] at this
    exact this
  have HRUN := Lib.hid RUN
  have HCL : ∀ (ty : TypeId) (off c : Nat) (W : World), (Builtin.clear_ #[24] ty #[.slice (some ⟨g, off, none⟩) 0 c]).run Try.prog W = .ok (.tuple #[]) W := fun ty off c W => by
    simp [Builtin.clear_, run_underlying Try.underlying24]
  have HCLR := Lib.hid HCL
  clear RUN hb hu h3 h4 hu4 hlen hR HCL
  have q1 : k + 1 ≤ cap := by omega
  have q2 : ¬ cap = k := by omega
  have q2' : ¬ cap = k + 1 := by omega
  have q3 : (k : Int) ≤ (cap : Int) := by omega
  have q4 : (k : Int) + 1 ≤ (cap : Int) := by omega
  have q4' : (k : Int) + 1 ≤ (n : Int) := by omega
  have q5 : ¬ (k : Int) = (k : Int) + 1 := by omega
  have q6 : ¬ (k : Int) + 1 = (n : Int) := by omega
  have hTi : (k : Int) + 1 + ((n - (k + 1) : Nat) : Int) = (n : Int) := by omega
  have q7 : ¬ (cap : Int) < (n : Int) := by omega
  have q8 : (n : Int) ≤ (cap : Int) := by omega
  have q12 : ((k : Int) + 1).toNat = k + 1 := by omega
  have q13 : n ≤ cap := by omega
  have q15 : (k : Int) ≤ (n : Int) := by omega
  have q16 : k ≤ n := by omega
  have q19 : (0 : Int) ≤ (k : Int) + 1 := by omega
  have q20 : k + 1 ≤ n := by omega
  have q18 : IntKind.i64.wrap ((k : Int) + 1) = (k : Int) + 1 := IntWalk.i64_in _ (by omega)
  rw [← hnn]
  rw [← hnn] at hk hn hl
  have HD := Lib.hid (And.intro hnn hm)
  clear hnn hm
  by_cases hcn : cap = n
  · subst hcn
    go_enter Try.func35, Try.ntmps35
    go_wp2_with fail
    go_quiet (fail)
    rename_i nq
    obtain ⟨w2, w3, hr2, hr3, ho, hf⟩ := HRUN.out nq
    have HR2 := Lib.hid hr2
    have HR3 := Lib.hid hr3
    have FIN := Lib.hid (And.intro ho hf)
    clear hr2 hr3 ho hf HRUN
    go_wp2_with (refine wp_copy_run rfl _ _ _ _ rfl _ _ rfl rfl _ _ HR2.out ?_)
    go_still_tail 9, (by kernel_rfl)
    change wpList _ _ _ _ _ w2.drew
    refine wp_copy_run rfl (.tmp 103) (.tmp 106) _ _ rfl (.slice (some ⟨g, (k + 1) * 4, none⟩) (cap - (k + 1)) (cap - (k + 1))) (.slice (some ⟨g, (k + 1) * 4, none⟩) (cap - (k + 1)) (cap - (k + 1))) (by simp [Act.eval]) (by simp [Act.eval]) _ _ HR3.out ?_
    go_wp2_with (refine wp_clear_run rfl _ _ rfl _ rfl _ _ (HCLR.out _ _ _ _) ?_)
    go_ret
    exact ⟨_, rfl, FIN.out.1, FIN.out.2, .inl rfl⟩
  · have q21 : ¬ cap = n := hcn
    go_enter Try.func35, Try.ntmps35
    go_wp2_with fail
    go_quiet (fail)
    rename_i nq
    obtain ⟨w2, w3, hr2, hr3, ho, hf⟩ := HRUN.out nq
    have HR2 := Lib.hid hr2
    have HR3 := Lib.hid hr3
    have FIN := Lib.hid (And.intro ho hf)
    clear hr2 hr3 ho hf HRUN
    go_wp2_with (refine wp_copy_run rfl _ _ _ _ rfl _ _ rfl rfl _ _ HR2.out ?_)
    go_still_tail 9, (by kernel_rfl)
    change wpList _ _ _ _ _ w2.drew
    refine wp_copy_run rfl (.tmp 103) (.tmp 106) _ _ rfl (.slice (some ⟨g, (k + 1) * 4, none⟩) (n - (k + 1)) (cap - (k + 1))) (.slice (some ⟨g, (k + 1) * 4, none⟩) (n - (k + 1)) (cap - (k + 1))) (by simp [Act.eval]) (by simp [Act.eval]) _ _ HR3.out ?_
    go_wp2_with (refine wp_clear_run rfl _ _ rfl _ rfl _ _ (HCLR.out _ _ _ _) ?_)
    go_ret
    exact ⟨_, rfl, FIN.out.1, FIN.out.2, .inl rfl⟩

set_option maxRecDepth 100000 in
/-- slices.Replace of one share by others that lie apart. -/
theorem replace_any (w : World) (v u : Value) (xs ys : List Shr) (k : Nat) (hv : OwnSh w v xs) (hu : OwnSh w u ys) (hne : ∀ i, v.ownBlock = some i → u.ownBlock ≠ some i) (hk : k < xs.length) (hm : 1 ≤ ys.length) (hm' : ys.length ≤ 1000) (hl : xs.length ≤ 1000) :
    Calls Try.prog 35 #[v, .int .i64 (k : Nat), .int .i64 ((k : Int) + 1), u] w fun e w' =>
      ∃ v', e = .returned v' ∧ OwnSh w' v' (xs.take k ++ (ys ++ xs.drop (k + 1))) ∧ Fr (Foot v) w w' ∧ (v'.ownBlock = v.ownBlock ∨ v'.ownBlock = some w.heap.size) := by
  rcases hv.cases with ⟨rfl, h0⟩ | ⟨g, cap, cur, rfl, hb, h1, h2, h3, h4⟩
  · rw [h0] at hk; cases hk
  have fin : ∀ (e : Ending) (w' : World), (∃ v', e = .returned v' ∧ OwnSh w' v' (xs.take k ++ (ys ++ xs.drop (k + 1))) ∧ Fr (fun i => i = g) w w' ∧ (v'.ownBlock = some g ∨ v'.ownBlock = some w.heap.size)) →
      ∃ v', e = .returned v' ∧ OwnSh w' v' (xs.take k ++ (ys ++ xs.drop (k + 1))) ∧ Fr (Foot (.slice (some ⟨g, 0, none⟩) xs.length cap)) w w' ∧ (v'.ownBlock = (Value.slice (some ⟨g, 0, none⟩) xs.length cap).ownBlock ∨ v'.ownBlock = some w.heap.size) := by
    rintro e w' ⟨v', a1, a2, a3, a4⟩
    exact ⟨v', a1, a2, a3.mono (fun i _ h => by rw [h]; rfl), a4⟩
  rcases Nat.lt_or_ge (k + 1) xs.length with hlt | hge
  · rcases hu.cases with ⟨rfl, h0⟩ | ⟨B, cB, csB, rfl, hB, b1, b2, b3, b4⟩
    · rw [h0] at hm; cases hm
    have hgB : g ≠ B := fun e => hne g rfl (by rw [e]; rfl)
    by_cases hroom : xs.length + ys.length ≤ cap + 1
    · by_cases h1' : ys.length = 1
      · have := replace_one w g cap cur xs ys B cB csB k hb h2 h3 h4 hB b4 hgB hlt h1' h1 hl
        have e : Value.slice (some ⟨B, 0, none⟩) ys.length cB = .slice (some ⟨B, 0, none⟩) 1 cB := by rw [h1']
        rw [e]
        exact this.mono fin
      · exact (replace_room w g cap cur xs ys B cB csB k hb h2 h3 h4 hB b4 hgB hlt (by omega) hm' h1 hl hroom).mono fin
    · exact (replace_grow w g cap cur xs ys B cB csB k hb h2 h3 h4 hB b4 hgB hlt hm hm' h1 hl (by omega)).mono fin
  · exact (replace_end w g cap cur xs ys u k hb h2 h3 h4 hu.rd (by omega) hm hm' h1 hl).mono fin
end Go.Proofs.Ytpggnelngfpfgaa
