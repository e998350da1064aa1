/- Numbers sorted, each once: what slices.Sort and slices.Compact make of a list (plain law). -/
import Derived.Test.YtpggnelngfpfgaaSpan
import Derived.Lib.SlicesCompact
import Derived.Sort.KeysCollected
namespace Go.Proofs.Ytpggnelngfpfgaa
open Go.Lib

def sortI (zs : List Int) : List Int := zs.mergeSort (fun x y => decide (x ≤ y))
def gsU (zs : List Int) : List Int := compact (sortI zs)
theorem compactI_law (d : Array Int) (hs : ∀ i j, i < j → j < d.size → d[i]! ≤ d[j]!) : ∀ m, m ≤ d.size →
    (compactUpTo d m).Pairwise (· < ·) ∧ (∀ x ∈ compactUpTo d m, ∃ j, j < m ∧ x = d[j]!) ∧ (0 < m → ∀ x ∈ compactUpTo d m, x ≤ d[m - 1]!) ∧ (∀ j, j < m → d[j]! ∈ compactUpTo d m)
  | 0, _ => by simp [compactUpTo]
  | m + 1, hm => by
    obtain ⟨h1, h2, h3, h4⟩ := compactI_law d hs m (by omega)
    rw [compactUpTo_succ]
    by_cases h0 : m = 0
    · subst h0
      have hk : keeps d 0 = true := keeps_lt_one d 0 (by omega)
      have he : compactUpTo d 0 = [] := rfl
      simp only [hk, if_true, he, List.nil_append, List.mem_singleton]
      refine ⟨by simp, fun x hx => ⟨0, by omega, hx⟩, fun _ x hx => by rw [hx]; exact Int.le_refl _, fun j hj => by rw [show j = 0 by omega]⟩
    · by_cases hd : d[m]! = d[m - 1]!
      · rw [if_neg (by rw [keeps_neg (by omega) hd]; simp), List.append_nil]
        refine ⟨h1, fun x hx => by obtain ⟨j, hj, e⟩ := h2 x hx; exact ⟨j, by omega, e⟩, fun _ x hx => ?_, fun j hj => ?_⟩
        · rw [Nat.add_sub_cancel, hd]; exact h3 (by omega) x hx
        · by_cases hjm : j < m
          · exact h4 j hjm
          · rw [show j = m by omega, hd]; exact h4 (m - 1) (by omega)
      · rw [if_pos (keeps_pos hd)]
        have hle := hs (m - 1) m (by omega) (by omega)
        have hlt : d[m - 1]! < d[m]! := by
          rcases Int.lt_or_eq_of_le hle with h | h
          · exact h
          · exact absurd h.symm hd
        refine ⟨?_, ?_, ?_, ?_⟩
        · rw [List.pairwise_append]
          refine ⟨h1, by simp, fun a ha b hb => ?_⟩
          rw [List.mem_singleton] at hb
          rw [hb]
          exact Int.lt_of_le_of_lt (h3 (by omega) a ha) hlt
        · intro x hx
          rcases List.mem_append.1 hx with hx | hx
          · obtain ⟨j, hj, e⟩ := h2 x hx; exact ⟨j, by omega, e⟩
          · exact ⟨m, by omega, List.mem_singleton.1 hx⟩
        · intro _ x hx
          rw [Nat.add_sub_cancel]
          rcases List.mem_append.1 hx with hx | hx
          · exact Int.le_of_lt (Int.lt_of_le_of_lt (h3 (by omega) x hx) hlt)
          · rw [List.mem_singleton.1 hx]; exact Int.le_refl _
        · intro j hj
          by_cases hjm : j < m
          · exact List.mem_append.2 (.inl (h4 j hjm))
          · rw [show j = m by omega]; exact List.mem_append.2 (.inr (List.mem_singleton.2 rfl))
theorem sortI_sorted (zs : List Int) : ∀ i j, i < j → j < (sortI zs).toArray.size → (sortI zs).toArray[i]! ≤ (sortI zs).toArray[j]! := by
  intro i j hij hj
  have hp := List.pairwise_mergeSort (le := fun x y : Int => decide (x ≤ y)) (fun a b c h1 h2 => by simp only [decide_eq_true_eq] at *; omega) (fun a b => by simp only [Bool.or_eq_true, decide_eq_true_eq]; omega) zs
  have hj' : j < (zs.mergeSort (fun x y => decide (x ≤ y))).length := by simpa [sortI] using hj
  have hi' : i < (zs.mergeSort (fun x y => decide (x ≤ y))).length := by omega
  have := (List.pairwise_iff_getElem.1 hp) i j hi' hj' hij
  unfold sortI
  rw [getElem!_pos _ i (by simpa using hi'), getElem!_pos _ j (by simpa using hj')]
  simpa using this
theorem gsU_rising (zs : List Int) : (gsU zs).Pairwise (· < ·) := (compactI_law (sortI zs).toArray (sortI_sorted zs) (sortI zs).length (by simp)).1
theorem gsU_mem (zs : List Int) (k : Int) : k ∈ gsU zs ↔ k ∈ zs := by
  have h := compactI_law (sortI zs).toArray (sortI_sorted zs) (sortI zs).length (by simp)
  have hs : k ∈ sortI zs ↔ k ∈ zs := by unfold sortI; exact List.mem_mergeSort
  rw [← hs]
  constructor
  · intro hx
    obtain ⟨j, hj, e⟩ := h.2.1 k hx
    rw [e, getElem!_pos _ j (by simpa using hj)]
    simp
  · intro hx
    obtain ⟨j, hj, e⟩ := List.getElem_of_mem hx
    have := h.2.2.2 j hj
    rw [getElem!_pos _ j (by simpa using hj)] at this
    show k ∈ compactUpTo (sortI zs).toArray (sortI zs).length
    simpa [e] using this
theorem sortI_length (zs : List Int) : (sortI zs).length = zs.length := by simp [sortI, List.length_mergeSort]
theorem compactUpToI_len (d : Array Int) : ∀ m, (compactUpTo d m).length ≤ m
  | 0 => by simp [compactUpTo]
  | m + 1 => by
    rw [compactUpTo_succ, List.length_append]
    have := compactUpToI_len d m
    split <;> simp <;> omega
theorem gsU_length (zs : List Int) : (gsU zs).length ≤ zs.length := by
  have : (compact (sortI zs)).length ≤ (sortI zs).length := compactUpToI_len _ _
  rw [sortI_length] at this
  exact this
theorem risingI_ext : ∀ l1 l2 : List Int, l1.Pairwise (· < ·) → l2.Pairwise (· < ·) → (∀ k, k ∈ l1 ↔ k ∈ l2) → l1 = l2
  | [], l2, _, _, h => by
    cases l2 with
    | nil => rfl
    | cons b r => have := (h b).2 (by simp); cases this
  | a :: l1, [], _, _, h => by have := (h a).1 (by simp); cases this
  | a :: l1, b :: l2, h1, h2, h => by
    have h1' := List.pairwise_cons.1 h1
    have h2' := List.pairwise_cons.1 h2
    have e : a = b := by
      rcases List.mem_cons.1 ((h a).1 (by simp)) with e | m
      · exact e
      · rcases List.mem_cons.1 ((h b).2 (by simp)) with e | m'
        · exact e.symm
        · have x := h2'.1 a m
          have y := h1'.1 b m'
          omega
    subst e
    rw [risingI_ext l1 l2 h1'.2 h2'.2 (fun k => ?_)]
    constructor
    · intro m
      rcases List.mem_cons.1 ((h k).1 (by simp [m])) with e | m'
      · have := h1'.1 k m; omega
      · exact m'
    · intro m
      rcases List.mem_cons.1 ((h k).2 (by simp [m])) with e | m'
      · have := h2'.1 k m; omega
      · exact m'
/-- The groups of two. -/
theorem gsU_two (a b : Int) : gsU [a, b] = if a < b then [a, b] else if b < a then [b, a] else [a] := by
  refine risingI_ext _ _ (gsU_rising _) ?_ (fun k => ?_)
  · split
    · rename_i h; simp [h]
    · split
      · rename_i h; simp [h]
      · simp
  · rw [gsU_mem]
    split
    · simp
    · split
      · simp [Or.comm]
      · have : a = b := by omega
        subst this
        simp
end Go.Proofs.Ytpggnelngfpfgaa
