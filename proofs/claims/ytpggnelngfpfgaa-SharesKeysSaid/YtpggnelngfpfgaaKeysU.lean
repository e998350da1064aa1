/- Texts sorted, each once: what slices.Sort and slices.Compact make of a list (plain law). -/
import Derived.Test.YtpggnelngfpfgaaSpan
import Derived.Lib.SlicesCompact
import Derived.Sort.KeysCollected
namespace Go.Proofs.Ytpggnelngfpfgaa
open Go.Lib

abbrev toL (s : ByteArray) : List UInt8 := s.data.toList
abbrev ofL (l : List UInt8) : ByteArray := ⟨l.toArray⟩
theorem ofL_toL (s : ByteArray) : ofL (toL s) = s := by simp [ofL, toL]
theorem toL_ofL (l : List UInt8) : toL (ofL l) = l := by simp [ofL, toL]
abbrev leU : List UInt8 → List UInt8 → Bool := fun x y => decide (x ≤ y)
def sortU (zs : List ByteArray) : List (List UInt8) := (zs.map toL).mergeSort leU
def keysU (zs : List ByteArray) : List ByteArray := (compact (sortU zs)).map ofL
theorem le_of_leU {a b : List UInt8} (h : leU a b = true) : a ≤ b := by simpa using h
theorem lt_of_le_ne {a b : List UInt8} (h : a ≤ b) (hn : a ≠ b) : a < b := by
  rcases Classical.em (a < b) with h1 | h1
  · exact h1
  · exact absurd (List.le_antisymm h (List.not_lt.1 h1)) hn
theorem lt_of_le_lt {a b c : List UInt8} (h : a ≤ b) (k : b < c) : a < c := by
  rcases Classical.em (a = b) with h1 | h1
  · rw [h1]; exact k
  · exact List.lt_trans (lt_of_le_ne h h1) k
theorem compact_law (d : Array (List UInt8)) (hs : ∀ i j, i < j → j < d.size → d[i]! ≤ d[j]!) : ∀ m, m ≤ d.size →
    (compactUpTo d m).Pairwise (· < ·) ∧ (∀ x ∈ compactUpTo d m, ∃ j, j < m ∧ x = d[j]!) ∧ (0 < m → ∀ x ∈ compactUpTo d m, x ≤ d[m - 1]!) ∧ (∀ j, j < m → d[j]! ∈ compactUpTo d m)
  | 0, _ => by simp [compactUpTo]
  | m + 1, hm => by
    obtain ⟨h1, h2, h3, h4⟩ := compact_law d hs m (by omega)
    rw [compactUpTo_succ]
    by_cases h0 : m = 0
    · subst h0
      have hk : keeps d 0 = true := keeps_lt_one d 0 (by omega)
      have he : compactUpTo d 0 = [] := rfl
      simp only [hk, if_true, he, List.nil_append, List.mem_singleton]
      refine ⟨by simp, fun x hx => ⟨0, by omega, hx⟩, fun _ x hx => by rw [hx]; exact List.le_refl _, fun j hj => by rw [show j = 0 by omega]⟩
    · by_cases hd : d[m]! = d[m - 1]!
      · rw [if_neg (by rw [keeps_neg (by omega) hd]; simp), List.append_nil]
        refine ⟨h1, fun x hx => by obtain ⟨j, hj, e⟩ := h2 x hx; exact ⟨j, by omega, e⟩, fun _ x hx => ?_, fun j hj => ?_⟩
        · rw [Nat.add_sub_cancel, hd]; exact h3 (by omega) x hx
        · by_cases hjm : j < m
          · exact h4 j hjm
          · rw [show j = m by omega, hd]; exact h4 (m - 1) (by omega)
      · rw [if_pos (keeps_pos hd)]
        have hlt : d[m - 1]! < d[m]! := lt_of_le_ne (hs (m - 1) m (by omega) (by omega)) (fun e => hd e.symm)
        refine ⟨?_, ?_, ?_, ?_⟩
        · rw [List.pairwise_append]
          refine ⟨h1, by simp, fun a ha b hb => ?_⟩
          rw [List.mem_singleton] at hb
          rw [hb]
          exact lt_of_le_lt (h3 (by omega) a ha) hlt
        · intro x hx
          rcases List.mem_append.1 hx with hx | hx
          · obtain ⟨j, hj, e⟩ := h2 x hx; exact ⟨j, by omega, e⟩
          · exact ⟨m, by omega, List.mem_singleton.1 hx⟩
        · intro _ x hx
          rw [Nat.add_sub_cancel]
          rcases List.mem_append.1 hx with hx | hx
          · exact List.le_of_lt (lt_of_le_lt (h3 (by omega) x hx) hlt)
          · rw [List.mem_singleton.1 hx]; exact List.le_refl _
        · intro j hj
          by_cases hjm : j < m
          · exact List.mem_append.2 (.inl (h4 j hjm))
          · rw [show j = m by omega]; exact List.mem_append.2 (.inr (List.mem_singleton.2 rfl))
theorem sortU_sorted (zs : List ByteArray) : ∀ i j, i < j → j < (sortU zs).toArray.size → (sortU zs).toArray[i]! ≤ (sortU zs).toArray[j]! := by
  intro i j hij hj
  have tr : ∀ a b c : List UInt8, leU a b = true → leU b c = true → leU a c = true := fun a b c h1 h2 => by simp only [leU, decide_eq_true_eq] at *; exact List.le_trans h1 h2
  have to : ∀ a b : List UInt8, (leU a b || leU b a) = true := fun a b => by simp only [leU, Bool.or_eq_true, decide_eq_true_eq]; exact List.le_total a b
  have hp := List.pairwise_mergeSort tr to (zs.map toL)
  have hj' : j < ((zs.map toL).mergeSort leU).length := by simpa [sortU] using hj
  have hi' : i < ((zs.map toL).mergeSort leU).length := by omega
  have := (List.pairwise_iff_getElem.1 hp) i j hi' hj' hij
  have h1 := le_of_leU this
  unfold sortU
  rw [getElem!_pos _ i (by simpa using hi'), getElem!_pos _ j (by simpa using hj')]
  simpa using h1
theorem keysU_rising (zs : List ByteArray) : (keysU zs).Pairwise (fun a b => ltB a b = true) := by
  have h := (compact_law (sortU zs).toArray (sortU_sorted zs) (sortU zs).length (by simp)).1
  unfold keysU
  rw [List.pairwise_map]
  refine List.Pairwise.imp ?_ h
  intro a b hab
  simpa [ltB] using hab
theorem keysU_mem (zs : List ByteArray) (k : ByteArray) : k ∈ keysU zs ↔ k ∈ zs := by
  have h := compact_law (sortU zs).toArray (sortU_sorted zs) (sortU zs).length (by simp)
  unfold keysU
  have hmem : ∀ x, x ∈ compact (sortU zs) ↔ x ∈ sortU zs := by
    intro x
    constructor
    · intro hx
      obtain ⟨j, hj, e⟩ := h.2.1 x hx
      rw [e, getElem!_pos _ j (by simpa using hj)]
      simp
    · intro hx
      obtain ⟨j, hj, e⟩ := List.getElem_of_mem hx
      have := h.2.2.2 j hj
      rw [getElem!_pos _ j (by simpa using hj)] at this
      show x ∈ compactUpTo (sortU zs).toArray (sortU zs).length
      simpa [e] using this
  rw [List.mem_map]
  constructor
  · rintro ⟨x, hx, rfl⟩
    have := (hmem x).1 hx
    unfold sortU at this
    rw [List.mem_mergeSort, List.mem_map] at this
    obtain ⟨y, hy, rfl⟩ := this
    rw [ofL_toL]
    exact hy
  · intro hk
    refine ⟨toL k, (hmem _).2 ?_, ofL_toL k⟩
    unfold sortU
    rw [List.mem_mergeSort, List.mem_map]
    exact ⟨k, hk, rfl⟩
theorem sortU_length (zs : List ByteArray) : (sortU zs).length = zs.length := by simp [sortU, List.length_mergeSort]
theorem compactUpTo_len (d : Array (List UInt8)) : ∀ m, (compactUpTo d m).length ≤ m
  | 0 => by simp [compactUpTo]
  | m + 1 => by
    rw [compactUpTo_succ, List.length_append]
    have := compactUpTo_len d m
    split <;> simp <;> omega
theorem compact_len (l : List (List UInt8)) : (compact l).length ≤ l.length := compactUpTo_len _ _
theorem keysU_length (zs : List ByteArray) : (keysU zs).length ≤ zs.length := by
  have := compact_len (sortU zs)
  rw [sortU_length] at this
  simpa [keysU] using this
end Go.Proofs.Ytpggnelngfpfgaa
