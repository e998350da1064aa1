/- Slices whose elements are one cell, read and owned. -/
import Derived.Test.YtpggnelngfpfgaaRw
import Derived.Laws.IdiomStrings
namespace Go.Proofs.Ytpggnelngfpfgaa
open Go.RowKit

section
variable {α : Type}
/-- The slice value reads as xs, each element one cell. -/
def Rd1 (f : α → Value) (w : World) (v : Value) (xs : List α) : Prop :=
  xs.length ≤ 9223372036854775807 ∧ ∃ A cap, v = .slice A xs.length cap ∧ (xs = [] ∨ ∃ b off, A = some ⟨b, off, none⟩ ∧ b < w.heap.size ∧ ∀ i (h : i < xs.length), w.cell? ⟨b, off + i, none⟩ = some (f xs[i]))
theorem Rd1.mono {f : α → Value} {F : Nat → Prop} {w w' : World} {v : Value} {xs : List α} (h : Rd1 f w v xs) (hf : Fr F w w') (hF : ∀ k, v.ownBlock = some k → ¬ F k) : Rd1 f w' v xs := by
  obtain ⟨h0, A, cap, rfl, h⟩ := h
  refine ⟨h0, A, cap, rfl, ?_⟩
  rcases h with h | ⟨b, off, rfl, hb, hc⟩
  · exact .inl h
  · exact .inr ⟨b, off, rfl, Nat.lt_of_lt_of_le hb hf.size, fun i hi => (hf.cell (p := ⟨b, off + i, none⟩) hb (hF b rfl)).trans (hc i hi)⟩
theorem Rd1.nix {f : α → Value} {w w' : World} {v : Value} {xs : List α} (h : Rd1 f w v xs) (hf : Fr Nix w w') : Rd1 f w' v xs := h.mono hf (fun _ _ h => h)
theorem Rd1.form {f : α → Value} {w : World} {v : Value} {xs : List α} (h : Rd1 f w v xs) : ∃ A c, v = .slice A xs.length c := by
  obtain ⟨_, A, c, e, _⟩ := h
  exact ⟨A, c, e⟩
theorem Rd1.form' {f : α → Value} {w : World} {v : Value} {xs : List α} (h : Rd1 f w v xs) : ∃ A n c, v = .slice A n c := by
  obtain ⟨_, A, c, e, _⟩ := h
  exact ⟨A, _, c, e⟩
theorem Rd1.nil (f : α → Value) (w : World) (A : Option Addr) (c : Nat) : Rd1 f w (.slice A 0 c) [] := ⟨by simp, A, c, rfl, .inl rfl⟩
theorem Rd1.src {f : α → Value} (h1 : ∀ x, (f x).oneCell' = true) {w : World} {v : Value} {xs : List α} (h : Rd1 f w v xs) : Src w 1 v xs.length (xs.map f) := by
  obtain ⟨hm, A, cap, rfl, h⟩ := h
  refine ⟨by simp, fun u hu => by obtain ⟨x, _, rfl⟩ := List.mem_map.1 hu; exact h1 x, ?_⟩
  rcases h with rfl | ⟨b, off, rfl, hb, hc⟩
  · exact ⟨A, cap, rfl, fun _ => rfl, fun ad _ j u hu => by cases hu⟩
  · refine ⟨_, cap, rfl, (fun h => by cases h), fun ad h j u hu => ?_⟩
    cases h
    obtain ⟨hj, e⟩ := List.getElem?_eq_some_iff.1 hu
    have hj' : j < xs.length := by simpa using hj
    rw [addr_add, hc j hj', ← e, List.getElem_map]
/-- The part from i to j. -/
theorem Rd1.cut {f : α → Value} {w : World} {A : Option Addr} {c : Nat} {xs : List α} (h : Rd1 f w (.slice A xs.length c) xs) (i j : Nat) (hij : i ≤ j) (hj : j ≤ xs.length) (A' : Option Addr) (c' : Nat)
    (hA : i < j → ∀ b off, A = some ⟨b, off, none⟩ → A' = some ⟨b, off + i, none⟩) : Rd1 f w (.slice A' (j - i) c') ((xs.take j).drop i) := by
  obtain ⟨hm, A0, c0, e, h⟩ := h
  cases e
  have hlen : ((xs.take j).drop i).length = j - i := by simp; omega
  refine ⟨by rw [hlen]; omega, A', c', by rw [hlen], ?_⟩
  by_cases hlt : i < j
  · right
    rcases h with h | ⟨b, off, rfl, hb, hc⟩
    · subst h; simp at hj; omega
    · refine ⟨b, off + i, hA hlt b off rfl, hb, fun k hk => ?_⟩
      rw [hlen] at hk
      have := hc (i + k) (by omega)
      rw [← Nat.add_assoc] at this
      rw [this]
      simp
  · left
    exact List.eq_nil_of_length_eq_zero (by omega)

/-- Elements that a call owns. -/
def Own1 (T : TypeId) (f : α → Value) (w : World) (v : Value) (xs : List α) : Prop := w.ownsRow 0 T 1 v xs.length (xs.map f)
theorem Own1.mono {T : TypeId} {f : α → Value} {F : Nat → Prop} {w w' : World} {v : Value} {xs : List α} (h : Own1 T f w v xs) (hf : Fr F w w') (hF : ∀ k, v.ownBlock = some k → ¬ F k) : Own1 T f w' v xs := own_mono h hf hF
theorem Own1.rd {T : TypeId} {f : α → Value} {w : World} {v : Value} {xs : List α} (h : Own1 T f w v xs) : Rd1 f w v xs := by
  have hc := fun g hg => World.ownsRow.cells h (g := g) hg
  obtain ⟨hl, h2⟩ := h
  rcases h2 with ⟨rfl, h0⟩ | ⟨g, cap, cur, rfl, hb, hh, hn, hm, r⟩
  · have : xs = [] := List.eq_nil_of_length_eq_zero h0
    subst this
    exact Rd1.nil _ _ _ _
  · refine ⟨by simp only [maxLen] at hm; omega, _, cap, rfl, .inr ⟨g, 0, rfl, (Array.getElem?_eq_some_iff.1 hh).1, fun i hi => ?_⟩⟩
    have := hc g rfl i (f xs[i]) (by rw [List.getElem?_map, List.getElem?_eq_getElem hi]; rfl)
    rwa [addr_add] at this
theorem Own1.nil (T : TypeId) (f : α → Value) (w : World) : Own1 T f w (.slice none 0 0) ([] : List α) := World.ownsRow_nil _ _ _ _
theorem Own1.of_blk {T : TypeId} {f : α → Value} {w : World} {xs : List α} {g cap : Nat} {cur : List Value} (hb : Blk w g cur T) (h1 : xs.length ≤ cap) (h2 : cap ≤ maxLen) (h3 : cur.length = cap) (h4 : cur.take xs.length = xs.map f) :
    Own1 T f w (.slice (some ⟨g, 0, none⟩) xs.length cap) xs :=
  ⟨by simp, .inr ⟨g, cap, cur.toArray, rfl, Nat.zero_le _, hb, h1, h2, by simpa using h3, by simpa using h4⟩⟩
theorem Own1.lit {T : TypeId} {f : α → Value} (w : World) (xs : List α) (hl : xs.length ≤ 1000) : Own1 T f (w.alloc (.cells (xs.map f).toArray T)) (.slice (some ⟨w.heap.size, 0, none⟩) xs.length xs.length) xs :=
  Own1.of_blk (Blk.new w (xs.map f) T) (Nat.le_refl _) (by simp only [maxLen]; omega) (by simp) (by rw [List.take_of_length_le (by simp)])
theorem Own1.cases {T : TypeId} {f : α → Value} {w : World} {v : Value} {xs : List α} (h : Own1 T f w v xs) : (v = .slice none 0 0 ∧ xs = []) ∨ ∃ g cap cur, v = .slice (some ⟨g, 0, none⟩) xs.length cap ∧ Blk w g cur T ∧ xs.length ≤ cap ∧ cap ≤ maxLen ∧ cur.length = cap ∧ cur.take xs.length = xs.map f := by
  obtain ⟨hl, h2⟩ := h
  rcases h2 with ⟨rfl, h0⟩ | ⟨g, cap, cur, rfl, hb, hh, hn, hm, r1, r2⟩
  · exact .inl ⟨rfl, List.eq_nil_of_length_eq_zero h0⟩
  · exact .inr ⟨g, cap, cur.toList, rfl, by simpa [Blk] using hh, hn, hm, by simpa using r1, by simpa using r2⟩
/-- One element stored. -/
theorem Own1.set {T : TypeId} {f : α → Value} {w : World} {g n cap : Nat} {xs : List α} (h : Own1 T f w (.slice (some ⟨g, 0, none⟩) n cap) xs) (i : Nat) (hi : i < xs.length) (y : α) : Own1 T f (w.setCell ⟨g, i, none⟩ (f y)) (.slice (some ⟨g, 0, none⟩) n cap) (xs.set i y) := by
  rcases h.cases with ⟨h, _⟩ | ⟨g', cap', cur, e, hb, h1, h2, h3, h4⟩
  · cases h
  · cases e
    have := Own1.of_blk (f := f) (xs := xs.set i y) (hb.set i (f y)) (by simpa using h1) h2 (by simpa using h3) (by rw [List.length_set, List.take_set, h4, List.map_set])
    rwa [List.length_set] at this
theorem Own1.frozen {T : TypeId} {f : α → Value} {w : World} {g n cap : Nat} {xs : List α} (h : Own1 T f w (.slice (some ⟨g, 0, none⟩) n cap) xs) (i : Nat) : w.frozen? ⟨g, i, none⟩ = false := by
  rcases h.cases with ⟨h, _⟩ | ⟨g', cap', cur, e, hb, h1, h2, h3, h4⟩
  · cases h
  · cases e
    exact hb.frozen i
end

end Go.Proofs.Ytpggnelngfpfgaa
