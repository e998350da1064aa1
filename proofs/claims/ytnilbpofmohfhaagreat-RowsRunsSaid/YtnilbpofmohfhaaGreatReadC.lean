/- rows.Read: rows read of bytes. -/
import Derived.Test.YtnilbpofmohfhaaGreatReadB
import Derived.Test.YtnilbpofmohfhaaGreatRowsE
namespace Go.Proofs.YtnilbpofmohfhaaGreat
open Go.RowKit

set_option maxRecDepth 100000 in
theorem eg45 : ∀ args w, (callFunc 84 args).run Tryz.prog w = .ok (.enter 84 args) w := fun _ _ => by kernel_rfl
set_option maxRecDepth 100000 in
theorem read1_any (w : World) (b c : Nat) (bad : Bool) (xs : List UInt8) (h : IsRd w b bad xs) (hc : w.cell? ⟨c, 0, none⟩ = some (.pointer (some ⟨b, 0, none⟩))) :
    Calls Tryz.prog 84 #[.pointer (some ⟨c, 0, none⟩)] w fun e w' => e = .returned (.bool bad) ∧ w = w' := by
  have hx : bad = true → xs = [] := by obtain ⟨v, _, _, _, hx, _⟩ := h; exact hx
  have HL := Lib.hid (leftR_any w b bad xs h)
  have HE := Lib.hid (endR_any w b bad xs h)
  clear h
  cases bad with
  | true =>
    obtain rfl := hx rfl
    clear hx
    go_enter Tryz.func84, Tryz.ntmps84
    go_wp2_with (first | (go_at_call 42; refine HL.out.mono ?_; rintro e w' ⟨rfl, rfl⟩) | (go_at_call 85; refine HE.out.mono ?_; rintro e w' ⟨rfl, rfl⟩))
    go_ret
    exact ⟨rfl, rfl⟩
  | false =>
    clear hx
    by_cases hn : xs = []
    · subst hn
      go_enter Tryz.func84, Tryz.ntmps84
      go_wp2_with (first | (go_at_call 42; refine HL.out.mono ?_; rintro e w' ⟨rfl, rfl⟩) | (go_at_call 85; refine HE.out.mono ?_; rintro e w' ⟨rfl, rfl⟩))
      go_ret
      exact ⟨rfl, rfl⟩
    · have hp : ¬ (xs.length : Int) = 0 := by have := List.length_pos_iff.2 hn; omega
      clear hn
      go_enter Tryz.func84, Tryz.ntmps84
      go_wp2_with (first | (go_at_call 42; refine HL.out.mono ?_; rintro e w' ⟨rfl, rfl⟩) | (go_at_call 85; refine HE.out.mono ?_; rintro e w' ⟨rfl, rfl⟩))
      all_goals
        go_ret
        exact ⟨rfl, rfl⟩

theorem StepR.set {w w1 : World} {b g : Nat} {bad : Bool} {r : List UInt8} (h : StepR w w1 b bad r) (hg : w.heap.size ≤ g) (hf : ∀ k, FootRd w b k → k < w.heap.size) (i : Nat) (u : Value) : StepR w (w1.setCell ⟨g, i, none⟩ u) b bad r := by
  have hF1 : Fr (fun k => k = g) w1 (w1.setCell ⟨g, i, none⟩ u) := (Fr.refl (fun k => k = g) w1).setCell (p := ⟨g, i, none⟩) (.inr rfl) _
  have hne : ∀ k, FootRd w1 b k → ¬ k = g := fun k hk e => by
    have := hf k (h.2.2 k hk)
    omega
  exact ⟨h.1.mono hF1 hne, h.2.1.setCell (p := ⟨g, i, none⟩) (.inl hg) _, fun k hk => h.2.2 k ((FootRd.same h.1 hF1 (hne b (.inl rfl))).1 hk)⟩
/-- One row read. -/
def oneR (bad : Bool) (rest : List UInt8) : Rw × Bool × List UInt8 :=
  (⟨⟨(rowRd 20 bad rest).1.toArray⟩, ⟨(rowRd 20 (rowRd 20 bad rest).2.1 (rowRd 20 bad rest).2.2).1.toArray⟩⟩, (rowRd 20 (rowRd 20 bad rest).2.1 (rowRd 20 bad rest).2.2).2.1, (rowRd 20 (rowRd 20 bad rest).2.1 (rowRd 20 bad rest).2.2).2.2)
theorem rowRd_le (most : Nat) (bad : Bool) (xs : List UInt8) : (rowRd most bad xs).2.2.length ≤ xs.length := by
  have := (numR_le most bad xs).2
  unfold rowRd
  split
  · exact this
  · split
    · simp; omega
    · simp

set_option maxRecDepth 100000 in
set_option maxHeartbeats 2000000 in
theorem read2_any (w : World) (b c c5 : Nat) (bad : Bool) (xs : List UInt8) (h : IsRd w b bad xs) (hB : xs.length ≤ 1000000000) (hc : w.cell? ⟨c, 0, none⟩ = some (.pointer (some ⟨b, 0, none⟩))) (hcb : c ≠ b) (hcb5 : c5 ≠ b) (hf : w.cell? ⟨c5, 0, none⟩ = some (.func (.func 84) #[] #[.pointer (some ⟨c, 0, none⟩)])) :
    Calls Tryz.prog 87 #[.pointer (some ⟨c, 0, none⟩), .pointer (some ⟨c5, 0, none⟩)] w fun e w' => e = .returned (.tuple #[(oneR bad xs).1.val, .bool (!(oneR bad xs).2.1 && rwB (oneR bad xs).1)]) ∧ StepR w w' b (oneR bad xs).2.1 (oneR bad xs).2.2 := by
  have hcl := ups (World.block_lt_of_cell? w _ hc)
  have hcl5 := ups (World.block_lt_of_cell? w _ hf)
  have hbl := h.lt
  have HFL : Hid (∀ k, FootRd w b k → k < w.heap.size) := fun k hk => h.flt hk
  have hF0 : Fr Nix w ((w.alloc (.cells #[.string ⟨#[]⟩, .string ⟨#[]⟩] 48)).alloc (.cells #[.string ⟨#[]⟩, .string ⟨#[]⟩] 48)) := ((Fr.refl _ _).alloc _).alloc _
  have HT := Lib.hid (textR_any ((w.alloc (.cells #[.string ⟨#[]⟩, .string ⟨#[]⟩] 48)).alloc (.cells #[.string ⟨#[]⟩, .string ⟨#[]⟩] 48)) b bad xs 20 (h.nix hF0) (by decide) hB)
  have hS0 := Lib.hid ((StepR.refl h).nix hF0)
  have hl1 := rowRd_le 20 bad xs
  obtain ⟨O, hO⟩ : ∃ O, O = oneR bad xs := ⟨_, rfl⟩
  have HO : Hid (O = oneR bad xs) := hO
  rw [← hO]
  clear hO
  unfold oneR at HO
  generalize rowRd 20 bad xs = Q1 at HT hl1 HO
  obtain ⟨q1, bd1, r1⟩ := Q1
  dsimp only at HT hl1 HO
  have hl2 : r1.length ≤ 1000000000 := by omega
  have HT2 := fun W h1 => Lib.hid (textR_any W b bd1 r1 20 h1 (by decide) hl2)
  generalize rowRd 20 bd1 r1 = Q2 at HT2 HO
  obtain ⟨q2, bd2, r2⟩ := Q2
  dsimp only at HT2 HO
  clear h hl1 hl2
  go_enter Tryz.func87, Tryz.ntmps87
  go_wp2_with fail
  refine HT.out.mono ?_
  rintro e w1 ⟨rfl, h1⟩
  have S1 := Lib.hid (hS0.out.trans h1)
  have B2 : Hid (Blk w1 w.heap.size [.string ⟨#[]⟩, .string ⟨#[]⟩] 48) := (Blk.alloc (Blk.new w [.string ⟨#[]⟩, .string ⟨#[]⟩] _) _).mono h1.2.1 (by omega)
  have B4 : Hid (Blk w1 (w.heap.size + 1) [.string ⟨#[]⟩, .string ⟨#[]⟩] 48) := by
    have := Blk.new (w.alloc (.cells #[.string ⟨#[]⟩, .string ⟨#[]⟩] 48)) [.string ⟨#[]⟩, .string ⟨#[]⟩] 48
    rw [World.size_alloc] at this
    exact this.mono h1.2.1 (by omega)
  clear h1 HT hS0
  have c0 : w1.cell? ⟨w.heap.size + 1, 0, none⟩ = some (.string ⟨#[]⟩) := B4.out.cell 0
  have f0 : w1.frozen? ⟨w.heap.size + 1, 0, none⟩ = false := B4.out.frozen 0
  have k1 : w1.cell? ⟨c, 0, none⟩ = some (.pointer (some ⟨b, 0, none⟩)) := (S1.out.2.1.cell (p := ⟨c, 0, none⟩) (World.block_lt_of_cell? w _ hc) hcb).trans hc
  have k5 : w1.cell? ⟨c5, 0, none⟩ = some (.func (.func 84) #[] #[.pointer (some ⟨c, 0, none⟩)]) := (S1.out.2.1.cell (p := ⟨c5, 0, none⟩) (World.block_lt_of_cell? w _ hf) hcb5).trans hf
  have hz := S1.out.2.1.size
  go_wp2_with fail
  have S1' : Hid (StepR w (w1.setCell ⟨w.heap.size + 1, 0, none⟩ (.string ⟨q1.toArray⟩)) b bd1 r1) := S1.out.set (Nat.le_succ _) HFL.out 0 _
  refine (HT2 _ S1'.out.1).out.mono ?_
  rintro e w2 ⟨rfl, h1⟩
  have S2 := Lib.hid (S1'.out.trans h1)
  have B2' : Hid (Blk w2 w.heap.size [.string ⟨#[]⟩, .string ⟨#[]⟩] 48) := (B2.out.mono ((Fr.refl (fun k => k = w.heap.size + 1) w1).setCell (p := ⟨w.heap.size + 1, 0, none⟩) (.inr rfl) (.string ⟨q1.toArray⟩)) (by omega)).mono h1.2.1 (by omega)
  have B4' : Hid (Blk w2 (w.heap.size + 1) [.string ⟨q1.toArray⟩, .string ⟨#[]⟩] 48) := (B4.out.set 0 (.string ⟨q1.toArray⟩)).mono h1.2.1 (by omega)
  clear h1 HT2 S1 S1' B2 B4 c0 f0 k1 k5 hz
  have c0 : w2.cell? ⟨w.heap.size + 1, 0, none⟩ = some (.string ⟨q1.toArray⟩) := B4'.out.cell 0
  have c1 : w2.cell? ⟨w.heap.size + 1, 1, none⟩ = some (.string ⟨#[]⟩) := B4'.out.cell 1
  have f1 : w2.frozen? ⟨w.heap.size + 1, 1, none⟩ = false := B4'.out.frozen 1
  have d0 : w2.cell? ⟨w.heap.size, 0, none⟩ = some (.string ⟨#[]⟩) := B2'.out.cell 0
  have d1 : w2.cell? ⟨w.heap.size, 1, none⟩ = some (.string ⟨#[]⟩) := B2'.out.cell 1
  have g0 : w2.frozen? ⟨w.heap.size, 0, none⟩ = false := B2'.out.frozen 0
  have g1 : w2.frozen? ⟨w.heap.size, 1, none⟩ = false := B2'.out.frozen 1
  have k1 : w2.cell? ⟨c, 0, none⟩ = some (.pointer (some ⟨b, 0, none⟩)) := (S2.out.2.1.cell (p := ⟨c, 0, none⟩) (World.block_lt_of_cell? w _ hc) hcb).trans hc
  have k5 : w2.cell? ⟨c5, 0, none⟩ = some (.func (.func 84) #[] #[.pointer (some ⟨c, 0, none⟩)]) := (S2.out.2.1.cell (p := ⟨c5, 0, none⟩) (World.block_lt_of_cell? w _ hf) hcb5).trans hf
  have hz := S2.out.2.1.size
  have S3 : Hid (StepR w (w2.setCell ⟨w.heap.size + 1, 1, none⟩ (.string ⟨q2.toArray⟩)) b bd2 r2) := S2.out.set (Nat.le_succ _) HFL.out 1 _
  have HC := Lib.hid (read1_any (w2.setCell ⟨w.heap.size + 1, 1, none⟩ (.string ⟨q2.toArray⟩)).drew b c bd2 r2 (S3.out.1.nix ((Fr.refl _ _).drew)) (by go_simp))
  have eg := eg45
  have HK : Hid (∀ W, Fr Nix (w2.setCell ⟨w.heap.size + 1, 1, none⟩ (.string ⟨q2.toArray⟩)) W → W.cell? ⟨w.heap.size + 1, 0, none⟩ = some (.string ⟨q1.toArray⟩) ∧ W.cell? ⟨w.heap.size + 1, 1, none⟩ = some (.string ⟨q2.toArray⟩) ∧ W.cell? ⟨w.heap.size, 0, none⟩ = some (.string ⟨#[]⟩) ∧ W.cell? ⟨w.heap.size, 1, none⟩ = some (.string ⟨#[]⟩) ∧ W.frozen? ⟨w.heap.size, 0, none⟩ = false ∧ W.frozen? ⟨w.heap.size, 1, none⟩ = false) := by
    intro W hW
    have b4 : Blk W (w.heap.size + 1) [.string ⟨q1.toArray⟩, .string ⟨q2.toArray⟩] 48 := (B4'.out.set 1 (.string ⟨q2.toArray⟩)).mono hW (fun h => h)
    have b2 : Blk W w.heap.size [.string ⟨#[]⟩, .string ⟨#[]⟩] 48 := (B2'.out.mono ((Fr.refl (fun k => k = w.heap.size + 1) w2).setCell (p := ⟨w.heap.size + 1, 1, none⟩) (.inr rfl) (.string ⟨q2.toArray⟩)) (by omega)).mono hW (fun h => h)
    exact ⟨b4.cell 0, b4.cell 1, b2.cell 0, b2.cell 1, b2.frozen 0, b2.frozen 1⟩
  cases bd2 with
  | true =>
    go_wp2_with fail
    go_region_with (go_at_call 84; refine HC.out.mono ?_; rintro e w3 ⟨rfl, rfl⟩)
    all_goals
      go_wp2_with fail
      rw [show O = (⟨⟨q1.toArray⟩, ⟨q2.toArray⟩⟩, true, r2) from HO.out]
      refine bodyPost_ret (v := .tuple #[.agg #[.string ⟨q1.toArray⟩, .string ⟨q2.toArray⟩], .bool false]) (by simp [results, Tryz.results87, go_sem, *]; try rfl) rfl ⟨rfl, ((S3.out.nix ((Fr.refl _ _).drew)).set (Nat.le_refl _) HFL.out 0 _).set (Nat.le_refl _) HFL.out 1 _⟩
  | false =>
    go_wp2_with fail
    go_region_with (first | (go_at_call 84; refine HC.out.mono ?_; rintro e w3 ⟨rfl, rfl⟩) | (go_at_call 45; refine (rowRight_any ⟨⟨q1.toArray⟩, ⟨q2.toArray⟩⟩ _).mono ?_; rintro e w3 ⟨rfl, h1⟩; have hk := HK.out w3 ((Fr.refl _ _).drew.nix h1); obtain ⟨x0, x1, y0, y1, z0, z1⟩ := hk))
    all_goals
      go_wp2_with fail
      rw [show O = (⟨⟨q1.toArray⟩, ⟨q2.toArray⟩⟩, false, r2) from HO.out]
      refine bodyPost_ret (v := .tuple #[.agg #[.string ⟨q1.toArray⟩, .string ⟨q2.toArray⟩], .bool (rwB ⟨⟨q1.toArray⟩, ⟨q2.toArray⟩⟩)]) (by simp [results, Tryz.results87, go_sem, *]; try rfl) rfl ⟨rfl, (((S3.out.nix ((Fr.refl _ _).drew)).nix h1).set (Nat.le_refl _) HFL.out 0 _).set (Nat.le_refl _) HFL.out 1 _⟩
end Go.Proofs.YtnilbpofmohfhaaGreat
