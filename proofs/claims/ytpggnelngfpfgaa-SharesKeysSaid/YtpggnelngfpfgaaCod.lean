/- Slices of structs: each element is coded as some cells; such slices as they are read, and as a call owns them. No program in it. -/
import Derived.Test.YtpggnelngfpfgaaBlk
namespace Go.Proofs.Ytpggnelngfpfgaa
open Go.RowKit

/-- How an element lies in memory. -/
structure Cod (α : Type) where
  f : α → List Value
  sz : Nat
  len : ∀ a, (f a).length = sz
  one : ∀ a, ∀ u ∈ f a, u.oneCell' = true
section
variable {α : Type} (C : Cod α)
def Cod.cells : List α → List Value
  | [] => []
  | x :: r => C.f x ++ Cod.cells r
theorem Cod.cells_length : ∀ xs, (C.cells xs).length = xs.length * C.sz
  | [] => by simp [Cod.cells]
  | x :: r => by rw [Cod.cells, List.length_append, C.len, Cod.cells_length r, List.length_cons, Nat.succ_mul, Nat.add_comm]
theorem Cod.cells_append : ∀ xs ys, C.cells (xs ++ ys) = C.cells xs ++ C.cells ys
  | [], ys => rfl
  | x :: r, ys => by simp [Cod.cells, Cod.cells_append r ys]
theorem Cod.cells_one : ∀ xs, ∀ u ∈ C.cells xs, u.oneCell' = true
  | [], u, h => by cases h
  | x :: r, u, h => by
    rw [Cod.cells, List.mem_append] at h
    rcases h with h | h
    · exact C.one x u h
    · exact Cod.cells_one r u h
theorem Cod.cells_at : ∀ (xs : List α) (i : Nat) (h : i < xs.length) (j : Nat), j < C.sz → (C.cells xs)[i * C.sz + j]? = (C.f xs[i])[j]?
  | x :: r, 0, _, j, hj => by rw [Cod.cells, Nat.zero_mul, Nat.zero_add, List.getElem?_append_left (by rw [C.len]; exact hj)]; rfl
  | x :: r, i + 1, h, j, hj => by
    rw [Cod.cells, List.getElem?_append_right (by rw [C.len, Nat.succ_mul]; omega), C.len, show (i + 1) * C.sz + j - C.sz = i * C.sz + j by rw [Nat.succ_mul]; omega]
    exact Cod.cells_at r i (by simpa using h) j hj
theorem Cod.lt_of {a : α} {j : Nat} {u : Value} (h : (C.f a)[j]? = some u) : j < C.sz := by
  rw [← C.len a]; exact (List.getElem?_eq_some_iff.1 h).1
theorem Cod.cells_of (xs : List α) (k : Nat) (u : Value) (h : (C.cells xs)[k]? = some u) : ∃ i, ∃ hi : i < xs.length, ∃ j, k = i * C.sz + j ∧ (C.f xs[i])[j]? = some u := by
  have hk : k < xs.length * C.sz := by rw [← C.cells_length]; exact (List.getElem?_eq_some_iff.1 h).1
  have h0 : 0 < C.sz := Nat.pos_of_ne_zero fun e => by rw [e] at hk; omega
  have hi : k / C.sz < xs.length := Nat.div_lt_of_lt_mul (by rw [Nat.mul_comm]; exact hk)
  have hj : k % C.sz < C.sz := Nat.mod_lt _ h0
  have e : k = k / C.sz * C.sz + k % C.sz := by rw [Nat.mul_comm]; exact (Nat.div_add_mod k C.sz).symm
  refine ⟨k / C.sz, hi, k % C.sz, e, ?_⟩
  rw [← C.cells_at xs _ hi _ hj, ← e]
  exact h
theorem Cod.cells_take {xs : List α} {cur : List Value} {i : Nat} (hi : i ≤ xs.length) (h4 : cur.take (xs.length * C.sz) = C.cells xs) : cur.take (i * C.sz) = C.cells (xs.take i) := by
  have hm : i * C.sz ≤ xs.length * C.sz := Nat.mul_le_mul_right _ hi
  have h1 : (C.cells xs).take (i * C.sz) = C.cells (xs.take i) := by
    conv => lhs; rw [← List.take_append_drop i xs]
    have hl : (C.cells (xs.take i)).length = i * C.sz := by rw [C.cells_length, List.length_take, Nat.min_eq_left hi]
    rw [C.cells_append, List.take_append_of_le_length (by omega)]
    exact List.take_of_length_le (by omega)
  rw [← h1, ← h4, List.take_take, Nat.min_eq_left hm]
theorem Cod.cells_drop {xs : List α} {cur : List Value} {i : Nat} (hi : i ≤ xs.length) (h4 : cur.take (xs.length * C.sz) = C.cells xs) (j : Nat) (u : Value) (hu : (C.cells (xs.drop i))[j]? = some u) : cur[i * C.sz + j]? = some u := by
  have h1 : (C.cells xs)[i * C.sz + j]? = some u := by
    conv => lhs; rw [← List.take_append_drop i xs]
    have hl : (C.cells (xs.take i)).length = i * C.sz := by rw [C.cells_length, List.length_take, Nat.min_eq_left hi]
    rw [C.cells_append, List.getElem?_append_right (by omega), hl, show i * C.sz + j - i * C.sz = j by omega]
    exact hu
  rw [← h4, List.getElem?_take] at h1
  split at h1
  · exact h1
  · cases h1

/-- A slice value that reads as these elements. -/
def RdC (w : World) (v : Value) (xs : List α) : Prop :=
  xs.length ≤ 9223372036854775807 ∧ ∃ A cap, v = .slice A xs.length cap ∧ (xs = [] ∨ ∃ b off, A = some ⟨b, off, none⟩ ∧ b < w.heap.size ∧
    ∀ i (h : i < xs.length) j u, (C.f xs[i])[j]? = some u → w.cell? ⟨b, off + i * C.sz + j, none⟩ = some u)
/-- Elements that a call owns. -/
def OwnC (T : TypeId) (w : World) (v : Value) (xs : List α) : Prop := w.ownsRow 0 T C.sz v xs.length (C.cells xs)
end
section
variable {α : Type} {C : Cod α} {T : TypeId} {w w' : World} {v : Value} {xs : List α} {F : Nat → Prop}
theorem RdC.mono (h : RdC C w v xs) (hf : Fr F w w') (hF : ∀ k, v.ownBlock = some k → ¬ F k) : RdC C w' v xs := by
  obtain ⟨h0, A, cap, rfl, h⟩ := h
  refine ⟨h0, A, cap, rfl, ?_⟩
  rcases h with h | ⟨b, off, rfl, hb, hc⟩
  · exact .inl h
  · exact .inr ⟨b, off, rfl, Nat.lt_of_lt_of_le hb hf.size, fun i hi j u hu => (hf.cell (p := ⟨b, _, none⟩) hb (hF b rfl)).trans (hc i hi j u hu)⟩
theorem RdC.nix (h : RdC C w v xs) (hf : Fr Nix w w') : RdC C w' v xs := h.mono hf (fun _ _ h => h)
theorem RdC.form (h : RdC C w v xs) : ∃ A c, v = .slice A xs.length c := by
  obtain ⟨_, A, c, e, _⟩ := h
  exact ⟨A, c, e⟩
theorem RdC.nil (C : Cod α) (w : World) (A : Option Addr) (c : Nat) : RdC C w (.slice A 0 c) [] := ⟨by simp, A, c, rfl, .inl rfl⟩
theorem RdC.src (h : RdC C w v xs) : Src w C.sz v xs.length (C.cells xs) := by
  obtain ⟨hm, A, cap, rfl, h⟩ := h
  refine ⟨C.cells_length xs, C.cells_one xs, ?_⟩
  rcases h with rfl | ⟨b, off, rfl, hb, hc⟩
  · exact ⟨A, cap, rfl, fun _ => rfl, fun ad _ j u hu => by cases hu⟩
  · refine ⟨_, cap, rfl, (fun h => by cases h), fun ad h j u hu => ?_⟩
    cases h
    obtain ⟨i, hi, j', rfl, hu'⟩ := C.cells_of xs j u hu
    rw [addr_add, ← Nat.add_assoc]
    exact hc i hi j' u hu'
theorem RdC.cut {A : Option Addr} {c : Nat} (h : RdC C w (.slice A xs.length c) xs) (i j : Nat) (hij : i ≤ j) (hj : j ≤ xs.length) (A' : Option Addr) (c' : Nat)
    (hA : i < j → ∀ b off, A = some ⟨b, off, none⟩ → A' = some ⟨b, off + i * C.sz, none⟩) : RdC C w (.slice A' (j - i) c') ((xs.take j).drop i) := by
  obtain ⟨hm, A0, c0, e, h⟩ := h
  cases e
  have hlen : ((xs.take j).drop i).length = j - i := by simp; omega
  refine ⟨by rw [hlen]; omega, A', c', by rw [hlen], ?_⟩
  by_cases hlt : i < j
  · right
    rcases h with h | ⟨b, off, rfl, hb, hc⟩
    · subst h; simp at hj; omega
    · refine ⟨b, off + i * C.sz, hA hlt b off rfl, hb, fun k hk m u hu => ?_⟩
      rw [hlen] at hk
      have := hc (i + k) (by omega) m u (by simpa using hu)
      rw [Nat.add_mul, ← Nat.add_assoc] at this
      exact this
  · left
    exact List.eq_nil_of_length_eq_zero (by omega)
theorem OwnC.mono (h : OwnC C T w v xs) (hf : Fr F w w') (hF : ∀ k, v.ownBlock = some k → ¬ F k) : OwnC C T w' v xs := own_mono h hf hF
theorem OwnC.nix (h : OwnC C T w v xs) (hf : Fr Nix w w') : OwnC C T w' v xs := own_mono h hf (fun _ _ h => h)
theorem OwnC.nil (C : Cod α) (T : TypeId) (w : World) : OwnC C T w (.slice none 0 0) ([] : List α) := World.ownsRow_nil _ _ _ _
theorem OwnC.cases (h : OwnC C T w v xs) : (v = .slice none 0 0 ∧ xs = []) ∨ ∃ g cap cur, v = .slice (some ⟨g, 0, none⟩) xs.length cap ∧ Blk w g cur T ∧ xs.length ≤ cap ∧ cap ≤ maxLen ∧ cur.length = cap * C.sz ∧ cur.take (xs.length * C.sz) = C.cells xs := by
  obtain ⟨hl, h2⟩ := h
  rcases h2 with ⟨rfl, h0⟩ | ⟨g, cap, cur, rfl, hb, hh, hn, hm, r1, r2⟩
  · exact .inl ⟨rfl, List.eq_nil_of_length_eq_zero h0⟩
  · exact .inr ⟨g, cap, cur.toList, rfl, by simpa [Blk] using hh, hn, hm, by simpa using r1, by simpa using r2⟩
theorem OwnC.of_blk {g cap : Nat} {cur : List Value} (hb : Blk w g cur T) (h1 : xs.length ≤ cap) (h2 : cap ≤ maxLen) (h3 : cur.length = cap * C.sz) (h4 : cur.take (xs.length * C.sz) = C.cells xs) :
    OwnC C T w (.slice (some ⟨g, 0, none⟩) xs.length cap) xs :=
  ⟨C.cells_length xs, .inr ⟨g, cap, cur.toArray, rfl, Nat.zero_le _, hb, h1, h2, by simpa using h3, by simpa using h4⟩⟩
theorem RdC.of_blk {g : Nat} {cur : List Value} (hb : Blk w g cur T) (h1 : xs.length ≤ 1000000000) (h4 : cur.take (xs.length * C.sz) = C.cells xs) (cap : Nat) : RdC C w (.slice (some ⟨g, 0, none⟩) xs.length cap) xs := by
  refine ⟨by omega, _, cap, rfl, .inr ⟨g, 0, rfl, hb.lt, fun i hi j u hu => ?_⟩⟩
  have hj := C.lt_of hu
  have h := C.cells_at xs i hi j hj
  rw [hu, ← h4, List.getElem?_take] at h
  split at h
  · rw [Nat.zero_add, hb.cell]; exact h
  · cases h
theorem OwnC.rd (h : OwnC C T w v xs) : RdC C w v xs := by
  rcases h.cases with ⟨rfl, rfl⟩ | ⟨g, cap, cur, rfl, hb, h1, h2, h3, h4⟩
  · exact RdC.nil _ _ _ _
  · refine ⟨by simp only [maxLen] at h2; omega, _, cap, rfl, .inr ⟨g, 0, rfl, hb.lt, fun i hi j u hu => ?_⟩⟩
    have hj := C.lt_of hu
    have h := C.cells_at xs i hi j hj
    rw [hu, ← h4, List.getElem?_take] at h
    split at h
    · rw [Nat.zero_add, hb.cell]; exact h
    · cases h
theorem OwnC.form (h : OwnC C T w v xs) : ∃ A n c, v = .slice A n c := by
  obtain ⟨A, c, e⟩ := h.rd.form
  exact ⟨A, _, c, e⟩
theorem OwnC.lit (C : Cod α) (T : TypeId) (w : World) (xs : List α) (hl : xs.length ≤ 1000) : OwnC C T (w.alloc (.cells (C.cells xs).toArray T)) (.slice (some ⟨w.heap.size, 0, none⟩) xs.length xs.length) xs :=
  OwnC.of_blk (Blk.new w (C.cells xs) T) (Nat.le_refl _) (by simp only [maxLen]; omega) (C.cells_length xs) (List.take_of_length_le (by rw [C.cells_length]; exact Nat.le_refl _))
end
end Go.Proofs.Ytpggnelngfpfgaa
