/- The plain law of rising rows: what a key's value is; two that tell alike are alike. -/
import Derived.Test.YtnilbpofmohfhaaGreatRowsE
namespace Go.Proofs.YtnilbpofmohfhaaGreat
open Go.RowKit

theorem posR_cons (k : ByteArray) (y : Rw) (r : List Rw) : posR k (y :: r) = if ltB y.k k then posR k r + 1 else 0 := rfl
theorem hitR_cons (k : ByteArray) (y : Rw) (r : List Rw) : hitR k (y :: r) = if ltB y.k k then hitR k r else decide (y.k = k) := by
  unfold hitR
  rw [posR_cons]
  by_cases h : ltB y.k k = true
  · rw [if_pos h, if_pos h, List.getElem?_cons_succ]
  · rw [if_neg h, if_neg h, List.getElem?_cons_zero]
theorem putR_nil (x : Rw) : putR x [] = [x] := rfl
theorem putR_cons (x y : Rw) (r : List Rw) : putR x (y :: r) = if ltB y.k x.k then y :: putR x r else if y.k = x.k then x :: r else x :: y :: r := by
  unfold putR
  rw [hitR_cons, posR_cons]
  by_cases h : ltB y.k x.k = true
  · simp only [if_pos h]
    by_cases h2 : hitR x.k r = true
    · rw [if_pos h2, if_pos h2, List.set_cons_succ]
    · rw [if_neg h2, if_neg h2]; simp
  · simp only [if_neg h]
    by_cases h2 : y.k = x.k
    · simp [h2]
    · simp [h2]

theorem ne_of_lt {a b : ByteArray} (h : ltB a b = true) : a ≠ b := fun e => by rw [e, ltB_irrefl] at h; cases h

/-- A key's value among rows. -/
def valR (key : ByteArray) : List Rw → Option ByteArray
  | [] => none
  | x :: r => if x.k = key then some x.v else valR key r
theorem val_above {key : ByteArray} : ∀ {xs : List Rw}, (∀ y ∈ xs, ltB key y.k = true) → valR key xs = none
  | [], _ => rfl
  | x :: r, h => by
    rw [valR, if_neg (ne_of_lt (h x (by simp))).symm]
    exact val_above (fun y hy => h y (by simp [hy]))
theorem val_put (x : Rw) (key : ByteArray) : ∀ xs, Rising xs → valR key (putR x xs) = if x.k = key then some x.v else valR key xs
  | [], _ => rfl
  | y :: r, hs => by
    obtain ⟨h1, h2⟩ := List.pairwise_cons.1 hs
    rw [putR_cons]
    by_cases h : ltB y.k x.k = true
    · rw [if_pos h, valR, valR, val_put x key r h2]
      by_cases hy : y.k = key
      · rw [if_pos hy, if_pos hy, if_neg (by rw [← hy]; exact (ne_of_lt h).symm)]
      · rw [if_neg hy, if_neg hy]
    · rw [if_neg h]
      by_cases h3 : y.k = x.k
      · rw [if_pos h3, valR, valR]
        by_cases hx : x.k = key
        · rw [if_pos hx, if_pos hx]
        · rw [if_neg hx, if_neg hx, if_neg (by rw [h3]; exact hx)]
      · rw [if_neg h3, valR]
theorem val_ext : ∀ {xs ys : List Rw}, Rising xs → Rising ys → (∀ key, valR key xs = valR key ys) → xs = ys
  | [], [], _, _, _ => rfl
  | [], y :: r, _, _, h => by have := h y.k; simp [valR] at this
  | x :: r, [], _, _, h => by have := h x.k; simp [valR] at this
  | x :: r, y :: s, hx, hy, h => by
    obtain ⟨x1, x2⟩ := List.pairwise_cons.1 hx
    obtain ⟨y1, y2⟩ := List.pairwise_cons.1 hy
    have hk : x.k = y.k := by
      refine ltB_antisymm ?_ ?_
      · cases hl : ltB x.k y.k with
        | false => rfl
        | true =>
          have h1 := h x.k
          rw [valR, if_pos rfl, val_above (key := x.k) (xs := y :: s) (fun z hz => by
            rcases List.mem_cons.1 hz with rfl | hz
            · exact hl
            · exact ltB_trans hl (y1 z hz))] at h1
          cases h1
      · cases hl : ltB y.k x.k with
        | false => rfl
        | true =>
          have h1 := h y.k
          rw [valR.eq_2 y.k y s, if_pos rfl, val_above (key := y.k) (xs := x :: r) (fun z hz => by
            rcases List.mem_cons.1 hz with rfl | hz
            · exact hl
            · exact ltB_trans hl (x1 z hz))] at h1
          cases h1
    have hv : x.v = y.v := by
      have h1 := h x.k
      rw [valR, valR, if_pos rfl, if_pos hk.symm] at h1
      exact Option.some.inj h1
    have hxy : x = y := by cases x; cases y; simp_all
    subst hxy
    have := val_ext x2 y2 (fun key => by
      by_cases hkey : x.k = key
      · rw [val_above (fun z hz => by rw [← hkey]; exact x1 z hz), val_above (fun z hz => by rw [← hkey]; exact y1 z hz)]
      · have h1 := h key
        rw [valR, valR, if_neg hkey, if_neg hkey] at h1
        exact h1)
    rw [this]
/-- The last value of a key among rows that are put. -/
def lastR (key : ByteArray) : List Rw → Option ByteArray
  | [] => none
  | x :: r => match lastR key r with | some v => some v | none => if x.k = key then some x.v else none
theorem val_putL (key : ByteArray) : ∀ (l xs : List Rw), Rising xs → valR key (putL xs l) = match lastR key l with | some v => some v | none => valR key xs
  | [], xs, _ => rfl
  | x :: r, xs, h => by
    show valR key (putL (putR x xs) r) = _
    rw [val_putL key r _ (put_rising h), val_put _ _ _ h, lastR]
    cases lastR key r with
    | some v => rfl
    | none =>
      by_cases hk : x.k = key
      · simp [hk]
      · simp [hk]
theorem putL_twice (xs : List Rw) : putL (putL [] xs) xs = putL [] xs := by
  have h0 : Rising ([] : List Rw) := List.Pairwise.nil
  refine val_ext (putL_rising (putL_rising h0 xs) xs) (putL_rising h0 xs) (fun key => ?_)
  rw [val_putL key xs _ (putL_rising h0 xs), val_putL key xs _ h0]
  cases lastR key xs <;> rfl
end Go.Proofs.YtnilbpofmohfhaaGreat
