/- An argument that is a slice of bytes, opened. -/
import Derived.Test.YtnilbpofmohfhaaGreatOpenR
import Derived.Test.YtnilbpofmohfhaaGreatBytes15
namespace Go.Proofs.YtnilbpofmohfhaaGreat
open Go.RowKit Go.ChangeShapes Go.WideShapes

theorem wide_slice {P : Program} {w : World} {r : Reach} {base : Nat} {t e : TypeId} {a : Addr} {n c : Nat} (ht : P.underlying t = some (.slice e)) (h : Value.okWide P w r base t (.slice (some a) n c)) : a.block < w.heap.size ∧ a.spot = none ∧ n ≤ c := by
  simp only [Value.okWide, ht, Cell.okWide, Cell.ok, World.has] at h
  obtain ⟨h1, h2, h3, h4, row, cells, h5, h6⟩ := h
  refine ⟨?_, h4, h1⟩
  unfold World.shape? at h5
  rcases Nat.lt_or_ge a.block w.heap.size with h | h
  · exact h
  · rw [Array.getElem?_eq_none h] at h5
    cases h5

theorem rdG_nil (W : World) : RdG W (.slice none 0 0) [] := by
  refine ⟨Rd1.nil _ _ _ _, ?_, ?_⟩
  · exact ⟨none, 0, rfl, Nat.le_refl _⟩
  · intro k hk
    simp [Value.ownBlock] at hk
set_option maxRecDepth 100000 in
theorem open_bytes {H : Type} {enc : TypeId × Value → H} {W : World} {base : Nat} {sp : Nat → Bool} {held : Bool} {b0 : Nat} {A : Option Addr} {n c : Nat} {d : DataW H} {p : List MemPlace}
    (h : DataW.Trod enc Tryz.prog W base sp held 50 (.slice A n c) d p) (hv : Value.okWide Tryz.prog W .any b0 50 (.slice A n c)) : ∃ xs, RdG W (.slice A n c) xs := by
  obtain ⟨fuel, hf⟩ := h
  rcases Deep.open_slice1 Tryz.underlying50 (by kernel_rfl) hf with ⟨hcs, _⟩ | ⟨a, len, cap, m, k, V, D, Pl, hcs, hb, hl, hm, hmm, hx, hall⟩
  · simp [Value.cells] at hcs
    obtain ⟨rfl, rfl, rfl⟩ := hcs
    exact ⟨[], rdG_nil W⟩
  · simp [Value.cells] at hcs
    obtain ⟨rfl, rfl, rfl⟩ := hcs
    obtain ⟨w1, w2, w3⟩ := wide_slice Tryz.underlying50 hv
    have hlm : n ≤ m := by rw [hmm]; split <;> omega
    obtain ⟨b, off, spot⟩ := a
    obtain rfl : spot = none := w2
    have each : ∀ i, i < n → ∃ x : UInt8, W.cell? ⟨b, off + i, none⟩ = some (by8 x) := by
      intro i hi
      obtain ⟨h0, h1⟩ := hall i (by omega)
      obtain ⟨x, e1, e2, hwf⟩ := DataW.trod_int Tryz.underlying5 h1
      rw [addr_add] at h0
      simp at e1
      have hr : 0 ≤ x ∧ x < 256 := by
        have h3 : (Lit.int .u8 x).wf = true := hwf
        unfold Lit.wf at h3
        simp at h3
        have m1 : IntKind.u8.min = 0 := by decide
        have m2 : IntKind.u8.max = 255 := by decide
        omega
      refine ⟨UInt8.ofNat x.toNat, ?_⟩
      rw [h0, e1]
      unfold by8
      congr 2
      have : (UInt8.ofNat x.toNat).toNat = x.toNat := by simp; omega
      rw [this]
      omega
    obtain ⟨X, hX⟩ := Deep.choose_lt each
    refine ⟨(List.range n).map X, ⟨by simp; simp only [maxLen] at hm; omega, some ⟨b, off, none⟩, c, by simp, ?_⟩, ⟨some ⟨b, off, none⟩, c, by simp, by simpa using w3⟩, fun k hk => by cases hk; exact w1⟩
    by_cases hn : n = 0
    · left; subst hn; rfl
    · right
      refine ⟨b, off, rfl, w1, fun i hi => ?_⟩
      have hi' : i < n := by simpa using hi
      simp only [List.getElem_map, List.getElem_range]
      exact hX i hi'
end Go.Proofs.YtnilbpofmohfhaaGreat
