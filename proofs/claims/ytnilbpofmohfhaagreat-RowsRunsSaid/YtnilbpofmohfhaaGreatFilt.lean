/- Plain law of rows: what lies in a span is what has it; good rows stay good; values. -/
import Derived.Test.YtnilbpofmohfhaaGreatRefH
import Derived.Test.YtnilbpofmohfhaaGreatRowL
import Derived.Test.YtnilbpofmohfhaaGreatRowsE
namespace Go.Proofs.YtnilbpofmohfhaaGreat

def Good (xs : List Rw) : Prop := Rising xs ∧ (∀ x ∈ xs, rwB x = true) ∧ xs.length ≤ 400
theorem Good.nil : Good [] := ⟨List.Pairwise.nil, (fun _ h => by cases h), by simp⟩

theorem parts_eq (xs : List Rw) (p q : Nat) (hpq : p ≤ q) : xs = xs.take p ++ ((xs.take q).drop p ++ xs.drop q) := by
  rw [← List.append_assoc]
  have : xs.take p = (xs.take q).take p := by rw [List.take_take, Nat.min_eq_left hpq]
  rw [this, List.take_append_drop, List.take_append_drop]
theorem filter_range (P : Rw → Bool) (xs : List Rw) (p q : Nat) (hpq : p ≤ q) (hq : q ≤ xs.length) (h : ∀ j (hj : j < xs.length), P xs[j] = decide (p ≤ j ∧ j < q)) :
    xs.filter P = (xs.take q).drop p ∧ xs.filter (fun x => !P x) = xs.take p ++ xs.drop q := by
  have h1 : ∀ a ∈ xs.take p, P a = false := by
    intro a ha
    obtain ⟨j, hj, rfl⟩ := List.mem_take_iff_getElem.1 ha
    rw [h j (by omega)]
    exact decide_eq_false (by omega)
  have h2 : ∀ a ∈ (xs.take q).drop p, P a = true := by
    intro a ha
    obtain ⟨j, hj, rfl⟩ := List.mem_drop_iff_getElem.1 ha
    rw [List.length_take] at hj
    rw [List.getElem_take, h (p + j) (by omega)]
    exact decide_eq_true (by omega)
  have h3 : ∀ a ∈ xs.drop q, P a = false := by
    intro a ha
    obtain ⟨j, hj, rfl⟩ := List.mem_drop_iff_getElem.1 ha
    rw [h (q + j) (by omega)]
    exact decide_eq_false (by omega)
  constructor
  · conv => lhs; rw [parts_eq xs p q hpq]
    rw [List.filter_append, List.filter_append, List.filter_eq_nil_iff.2 (fun a ha => by simp [h1 a ha]), List.filter_eq_self.2 h2, List.filter_eq_nil_iff.2 (fun a ha => by simp [h3 a ha])]
    simp
  · conv => lhs; rw [parts_eq xs p q hpq]
    rw [List.filter_append, List.filter_append, List.filter_eq_self.2 (fun a ha => by simp [h1 a ha]), List.filter_eq_nil_iff.2 (fun a ha => by simp [h2 a ha]), List.filter_eq_self.2 (fun a ha => by simp [h3 a ha])]
    simp
theorem key_of_rw {x : Rw} (h : rwB x = true) : keyB x.k = true ∧ x.v.size ≤ 20 := by simpa [rwB] using h
theorem in_filter {xs : List Rw} (hs : Rising xs) (hk : ∀ x ∈ xs, rwB x = true) (lo hi : ByteArray) :
    inR lo hi xs = xs.filter (fun x => hasS lo hi x.k) ∧ outR lo hi xs = xs.filter (fun x => !hasS lo hi x.k) := by
  unfold inR outR bnds
  cases hr : rightB lo hi with
  | false =>
    have hf : ∀ x : Rw, hasS lo hi x.k = false := fun x => by simp [hasS, hr]
    constructor
    · simp only [Bool.false_eq_true, if_false, List.take_zero, List.drop_nil]
      rw [List.filter_eq_nil_iff.2 (fun a _ => by simp [hf a])]
    · simp only [Bool.false_eq_true, if_false, List.take_zero, List.drop_zero, List.nil_append]
      rw [List.filter_eq_self.2 (fun a _ => by simp [hf a])]
  | true =>
    have hb := bnds_le lo hi xs hs
    unfold bnds at hb
    rw [hr] at hb
    simp only [if_true] at hb ⊢
    have h := filter_range (fun x => hasS lo hi x.k) xs _ _ hb.1 hb.2 (by
      intro j hj
      have hkey := (key_of_rw (hk _ (List.getElem_mem hj))).1
      have h1 : ltB xs[j].k lo = decide (j < posR lo xs) := by
        by_cases c : j < posR lo xs
        · rw [pos_lt hs j hj c, decide_eq_true c]
        · rw [pos_ge hs j hj (by omega), decide_eq_false c]
      have h2 : (noneB hi || ltB xs[j].k hi) = decide (j < if noneB hi then xs.length else posR hi xs) := by
        cases hn : noneB hi with
        | true => simp [hj]
        | false =>
          by_cases c : j < posR hi xs
          · rw [pos_lt hs j hj c]; simp [c]
          · rw [pos_ge hs j hj (by omega)]; simp [c]
      show (rightB lo hi && keyB xs[j].k && !(ltB xs[j].k lo) && (noneB hi || ltB xs[j].k hi)) = _
      rw [hr, hkey, h1, h2, Bool.eq_iff_iff]
      simp)
    exact ⟨h.1.symm, h.2.symm⟩

theorem mem_putR' {x y : Rw} {xs : List Rw} (h : y ∈ putR x xs) : y = x ∨ y ∈ xs := by
  unfold putR at h
  split at h
  · rcases List.mem_or_eq_of_mem_set h with h | h
    · exact .inr h
    · exact .inl h
  · simp only [List.mem_append, List.mem_singleton] at h
    rcases h with (h | h) | h
    · exact .inr (List.mem_of_mem_take h)
    · exact .inl h
    · exact .inr (List.mem_of_mem_drop h)
theorem mem_putL' {y : Rw} : ∀ (l xs : List Rw), y ∈ putL xs l → y ∈ xs ∨ y ∈ l
  | [], xs, h => .inl h
  | x :: r, xs, h => by
    rcases mem_putL' r (putR x xs) h with h | h
    · rcases mem_putR' h with h | h
      · exact .inr (by simp [h])
      · exact .inl h
    · exact .inr (by simp [h])
theorem good_put {xs : List Rw} (h : Good xs) (l : List Rw) : Good (putT xs l) := by
  unfold putT
  split
  · rename_i he
    unfold putE at he
    split at he
    · cases he
    · rename_i ha
      split at he
      · cases he
      · rename_i hl
        refine ⟨putL_rising h.1 l, fun x hx => ?_, by omega⟩
        rcases mem_putL' l xs hx with hx | hx
        · exact h.2.1 x hx
        · simp only [List.any_eq_true, not_exists, not_and, Bool.not_eq_true', Bool.not_eq_false] at ha
          exact ha x hx
  · exact h
theorem good_filter {xs : List Rw} (h : Good xs) (P : Rw → Bool) : Good (xs.filter P) :=
  ⟨List.Pairwise.filter _ h.1, fun x hx => h.2.1 x (List.mem_filter.1 hx).1, Nat.le_trans (List.length_filter_le _ _) h.2.2⟩
theorem good_in {xs : List Rw} (h : Good xs) (lo hi : ByteArray) : Good (inR lo hi xs) ∧ Good (outR lo hi xs) := by
  rw [(in_filter h.1 h.2.1 lo hi).1, (in_filter h.1 h.2.1 lo hi).2]
  exact ⟨good_filter h _, good_filter h _⟩
/-! values -/
theorem getR_cons (key : ByteArray) (y : Rw) (r : List Rw) : getR key (y :: r) = if ltB y.k key then getR key r else if y.k = key then y.v else ⟨#[]⟩ := by
  unfold getR
  rw [posR_cons]
  cases ltB y.k key <;> simp
theorem val_hit (key : ByteArray) : ∀ {xs : List Rw}, Rising xs → (hitR key xs = (valR key xs).isSome) ∧ (hitR key xs = true → valR key xs = some (getR key xs))
  | [], _ => ⟨rfl, fun h => by cases h⟩
  | y :: r, hs => by
    have hs' := List.pairwise_cons.1 hs
    have ih := val_hit key hs'.2
    rw [hitR_cons, getR_cons, valR]
    cases hy : ltB y.k key with
    | true =>
      have : y.k ≠ key := ne_of_lt hy
      simp only [if_true, if_neg this]
      exact ih
    | false =>
      simp only [Bool.false_eq_true, if_false]
      by_cases he : y.k = key
      · simp [he]
      · have : valR key r = none := val_above fun z hz => by
          have h1 : ltB y.k z.k = true := hs'.1 z hz
          cases h2 : ltB key y.k with
          | true => exact ltB_trans h2 h1
          | false => exact absurd (ltB_antisymm hy h2) he
        simp [he, this]
theorem val_none {key : ByteArray} : ∀ {xs : List Rw}, (∀ x ∈ xs, x.k ≠ key) → valR key xs = none
  | [], _ => rfl
  | y :: r, h => by rw [valR, if_neg (h y (by simp)), val_none fun x hx => h x (by simp [hx])]
theorem val_mem : ∀ {xs : List Rw}, Rising xs → ∀ x ∈ xs, valR x.k xs = some x.v
  | y :: r, hs, x, hx => by
    have hs' := List.pairwise_cons.1 hs
    rw [valR]
    rcases List.mem_cons.1 hx with rfl | hx
    · simp
    · have : y.k ≠ x.k := ne_of_lt (hs'.1 x hx)
      rw [if_neg this]
      exact val_mem hs'.2 x hx
theorem key_inj {xs : List Rw} (hs : Rising xs) {x y : Rw} (hx : x ∈ xs) (hy : y ∈ xs) (h : x.k = y.k) : x = y := by
  have h1 := val_mem hs x hx
  have h2 := val_mem hs y hy
  rw [h, h2] at h1
  cases x; cases y
  simp_all
theorem val_filter {xs : List Rw} (hs : Rising xs) (P : Rw → Bool) (x : Rw) (hx : x ∈ xs) : valR x.k (xs.filter P) = if P x then some x.v else none := by
  have hf : Rising (xs.filter P) := List.Pairwise.filter _ hs
  cases hp : P x with
  | true => rw [if_pos rfl]; exact val_mem hf x (List.mem_filter.2 ⟨hx, hp⟩)
  | false =>
    rw [if_neg (by simp)]
    refine val_none fun y hy e => ?_
    obtain ⟨h1, h2⟩ := List.mem_filter.1 hy
    rw [key_inj hs h1 hx e, hp] at h2
    cases h2

theorem has_all_keyS (k : ByteArray) (h : keyB k = true) : hasS ByteArray.empty ByteArray.empty k = true := by
  have h2 : rightB ByteArray.empty ByteArray.empty = true := by decide +kernel
  have h3 : noneB ByteArray.empty = true := by decide +kernel
  have h4 : ltB k ByteArray.empty = false := by simp [ltB]
  simp [hasS, h, h2, h3, h4]
theorem in_every {xs : List Rw} (h : Good xs) : inR ByteArray.empty ByteArray.empty xs = xs := by
  rw [(in_filter h.1 h.2.1 _ _).1]
  exact List.filter_eq_self.2 fun x hx => has_all_keyS _ (key_of_rw (h.2.1 x hx)).1
end Go.Proofs.YtnilbpofmohfhaaGreat
