/- An argument that is a slice of rows, opened. -/
import Derived.Test.YtnilbpofmohfhaaGreatKitR
import Derived.Deep.SlicePairs
import Derived.SizedLaws
import Derived.ShutString
import Derived.ChangeOld
import Derived.OpenShut
namespace Go.Proofs.YtnilbpofmohfhaaGreat
open Go.RowKit Go.ChangeShapes Go.WideShapes

theorem weights_all {H : Type} {P : Program} {e : TypeId} {d : DataW H} {n : Nat} (hn : n ∈ d.weights P e) : ∀ {l : List (DataW H)}, d ∈ l → n ∈ DataW.weightsAll P e l
  | [], h => by cases h
  | x :: r, h => by
    rw [DataW.weightsAll, List.mem_append]
    rcases List.mem_cons.1 h with rfl | h
    · exact .inl hn
    · exact .inr (weights_all hn h)

theorem open_rows {H : Type} {enc : TypeId × Value → H} {W : World} {base : Nat} {sp : Nat → Bool} {held : Bool} {A : Option Addr} {n c : Nat} {d : DataW H} {p : List MemPlace}
    (h : DataW.Trod enc Tryz.prog W base sp held 29 (.slice A n c) d p) (hw : ∀ k ∈ d.weights Tryz.prog 29, k ≤ reachBytes) : ∃ xs, RdR W (.slice A n c) xs ∧ SmallR xs := by
  obtain ⟨fuel, hf⟩ := h
  rcases Deep.open_slice_pairs Tryz.underlying29 Tryz.underlying48 (by kernel_rfl) rfl rfl (by kernel_rfl) (by kernel_rfl) hf with ⟨hcs, _⟩ | ⟨a, len, cap, m, k, V0, V1, D0, D1, P0, P1, hcs, hb, hl, hm, hmm, hx, hall⟩
  · simp [Value.cells] at hcs
    obtain ⟨rfl, rfl, rfl⟩ := hcs
    exact ⟨[], ⟨by simp, none, 0, rfl, .inl rfl⟩, fun x hx => by cases hx⟩
  · simp [Value.cells] at hcs
    obtain ⟨rfl, rfl, rfl⟩ := hcs
    have hlm : n ≤ m := by rw [hmm]; split <;> omega
    have each : ∀ i, i < n → ∃ x : Rw, W.cell? (a.add (i * 2)) = some (.string x.k) ∧ W.cell? (a.add (i * 2 + 1)) = some (.string x.v) ∧ D0 i = .lit (.string x.k.data.toList) ∧ D1 i = .lit (.string x.v.data.toList) := by
      intro i hi
      obtain ⟨h0, h1, h2, h3⟩ := hall i (by omega)
      obtain ⟨s, e1, e2, _⟩ := DataW.trod_string Tryz.underlying9 h2
      obtain ⟨s', e3, e4, _⟩ := DataW.trod_string Tryz.underlying9 h3
      simp at e1 e3
      exact ⟨⟨s, s'⟩, by rw [h0, e1], by rw [h1, e3], congrArg Prod.fst e2, congrArg Prod.fst e4⟩
    haveI : Inhabited Rw := ⟨⟨⟨#[]⟩, ⟨#[]⟩⟩⟩
    obtain ⟨X, hX⟩ := Deep.choose_lt each
    refine ⟨(List.range n).map X, ⟨by simp; simp only [maxLen] at hm; omega, some a, c, by simp, ?_⟩, ?_⟩
    · by_cases hn : n = 0
      · left; subst hn; rfl
      · right
        have hs := (hX 0 (by omega)).1
        have hb0 : a.block < W.heap.size := by
          have := World.block_lt_of_cell? W _ hs
          simpa [Addr.add] using this
        obtain ⟨b, off, spot⟩ := a
        have : spot = none := by
          cases spot with
          | none => rfl
          | some z =>
            simp only [Addr.add, World.cell?] at hs
            split at hs
            · simp at hs
            · cases hs
        subst this
        refine ⟨b, off, rfl, hb0, fun i hi => ?_⟩
        have hi' : i < n := by simpa using hi
        obtain ⟨h0, h1, _⟩ := hX i hi'
        rw [addr_add] at h0 h1
        simp only [List.getElem_map, List.getElem_range]
        exact ⟨h0, by rw [Nat.add_assoc]; exact h1⟩
    · intro x hx'
      obtain ⟨i, hi, rfl⟩ := List.mem_map.1 hx'
      have hi' : i < n := List.mem_range.1 hi
      obtain ⟨_, _, e0, e1⟩ := hX i hi'
      have hd := congrArg Prod.fst hx
      dsimp only at hd
      have mem : DataW.agg [D0 i, D1 i] ∈ (List.range n).map fun i => DataW.agg [D0 i, D1 i] := List.mem_map.2 ⟨i, hi, rfl⟩
      have wt : ∀ k ∈ (DataW.agg [D0 i, D1 i]).weights Tryz.prog 48, k ≤ reachBytes := by
        intro k hk
        refine hw k ?_
        rw [hd, DataW.weights, Tryz.underlying29]
        exact List.mem_cons_of_mem _ (List.mem_append.2 (.inl (weights_all hk mem)))
      rw [e0, e1] at wt
      simp only [DataW.weights, Tryz.underlying48] at wt
      have r : reachBytes = 140737488351232 := rfl
      rw [r] at wt
      have w0 := wt (X i).k.data.toList.length (by simp [DataW.weightsEach, DataW.weights])
      have w1 := wt (X i).v.data.toList.length (by simp [DataW.weightsEach, DataW.weights])
      exact ⟨by simpa using w0, by simpa using w1⟩
end Go.Proofs.YtnilbpofmohfhaaGreat
