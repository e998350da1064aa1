/- A map of texts that the call itself made, as rising rows. -/
import Derived.Test.YtnilbpofmohfhaaRowsE
import Derived.Maps.OwnOps
import Derived.Maps.StringElems
namespace Go.Proofs.Ytnilbpofmohfhaa
open Go.RowKit Go.ChangeMaps

theorem posR_cons (k : ByteArray) (y : Rw) (r : List Rw) : posR k (y :: r) = if ltB y.k k then posR k r + 1 else 0 := rfl
theorem hitR_cons (k : ByteArray) (y : Rw) (r : List Rw) : hitR k (y :: r) = if ltB y.k k then hitR k r else decide (y.k = k) := by
  unfold hitR
  rw [posR_cons]
  by_cases h : ltB y.k k = true
  · rw [if_pos h, if_pos h, List.getElem?_cons_succ]
  · rw [if_neg h, if_neg h, List.getElem?_cons_zero]
theorem putR_nil (x : Rw) : putR x [] = [x] := rfl
theorem putR_cons (x y : Rw) (r : List Rw) : putR x (y :: r) = if ltB y.k x.k then y :: putR x r else if y.k = x.k then x :: r else x :: y :: r := by
  unfold putR
  rw [hitR_cons, posR_cons]
  by_cases h : ltB y.k x.k = true
  · simp only [if_pos h]
    by_cases h2 : hitR x.k r = true
    · rw [if_pos h2, if_pos h2, List.set_cons_succ]
    · rw [if_neg h2, if_neg h2]; simp
  · simp only [if_neg h]
    by_cases h2 : y.k = x.k
    · simp [h2]
    · simp [h2]

theorem before_iff : ∀ (x y : List UInt8), bytesBefore x y = decide (x < y)
  | [], [] => by simp [bytesBefore]
  | _ :: _, [] => by simp [bytesBefore]
  | [], _ :: _ => by simp [bytesBefore]
  | a :: x, b :: y => by
    rw [bytesBefore, before_iff x y]
    by_cases h1 : a < b <;> by_cases h2 : a = b <;> by_cases h3 : x < y <;> simp [h1, h2, h3, List.cons_lt_cons_iff]

abbrev DN := DataW Nat
def litB (s : ByteArray) : Lit := .string s.data.toList
def rowsD (xs : List Rw) : List (Lit × DN) := xs.map fun x => (litB x.k, .lit (litB x.v))
theorem lit_before (a b : ByteArray) : (litB a).before (litB b) = ltB a b := before_iff _ _
theorem lit_inj {a b : ByteArray} (h : litB a = litB b) : a = b := by
  simp only [litB, Lit.string.injEq] at h
  cases a; cases b; simp_all [Array.toList_inj]
theorem lit_same (a b : ByteArray) : (litB a).sameKey (litB b) = decide (a = b) := by
  by_cases h : a = b
  · subst h; simp [litB, Lit.sameKey]
  · rw [decide_eq_false h]
    have : ¬ a.data.toList = b.data.toList := fun e => h (lit_inj (by rw [litB, litB, e]))
    simp [litB, Lit.sameKey, this]
    exact fun e => this (by rw [e])
theorem ne_of_lt {a b : ByteArray} (h : ltB a b = true) : a ≠ b := fun e => by rw [e, ltB_irrefl] at h; cases h
theorem rows_keep (x : Rw) : ∀ xs : List Rw, (∀ y ∈ xs, ltB x.k y.k = true) → (rowsD xs).filter (notKey (litB x.k)) = rowsD xs
  | [], _ => rfl
  | y :: r, h => by
    have h1 := h y (by simp)
    have : notKey (litB x.k) ((litB y.k, .lit (litB y.v)) : Lit × DN) = true := by
      unfold notKey
      rw [lit_same, decide_eq_false (ne_of_lt h1).symm]
      rfl
    show ((litB y.k, .lit (litB y.v)) :: rowsD r).filter _ = _
    rw [List.filter_cons_of_pos this, rows_keep x r (fun z hz => h z (by simp [hz]))]
    rfl
theorem rows_front (x : Rw) (xs : List Rw) (h : ∀ y ∈ xs, ltB x.k y.k = true) : DataW.insert (litB x.k, .lit (litB x.v)) (rowsD xs) = rowsD (x :: xs) := by
  cases xs with
  | nil => rfl
  | cons y r =>
    show DataW.insert _ ((litB y.k, .lit (litB y.v)) :: rowsD r) = _
    rw [DataW.insert, if_pos]
    · rfl
    · show (litB x.k).before (litB y.k) = true
      rw [lit_before]
      exact h y (by simp)
theorem putKey_rows (x : Rw) : ∀ xs : List Rw, Rising xs → putKey (litB x.k) (.lit (litB x.v)) (rowsD xs) = rowsD (putR x xs)
  | [], _ => rfl
  | y :: r, hs => by
    obtain ⟨h1, h2⟩ := List.pairwise_cons.1 hs
    rw [putR_cons]
    unfold putKey
    show DataW.insert _ (((litB y.k, .lit (litB y.v)) :: rowsD r).filter _) = _
    by_cases h : ltB y.k x.k = true
    · rw [if_pos h, List.filter_cons_of_pos (by unfold notKey; rw [lit_same, decide_eq_false (ne_of_lt h)]; rfl), DataW.insert, if_neg]
      · have := putKey_rows x r h2
        unfold putKey at this
        rw [this]
        rfl
      · show ¬ (litB x.k).before (litB y.k) = true
        rw [lit_before, ltB_asymm h]
        decide
    · rw [if_neg h]
      by_cases h3 : y.k = x.k
      · rw [if_pos h3, List.filter_cons_of_neg (by unfold notKey; rw [lit_same, decide_eq_true h3]; decide)]
        have hr : ∀ z ∈ r, ltB x.k z.k = true := fun z hz => by rw [← h3]; exact h1 z hz
        rw [rows_keep x r hr, rows_front x r hr]
      · have h4 : ltB x.k y.k = true := by
          cases h5 : ltB x.k y.k with
          | true => rfl
          | false => exact absurd (ltB_antisymm (by simpa using h) h5) h3
        rw [if_neg h3]
        have hr : ∀ z ∈ y :: r, ltB x.k z.k = true := fun z hz => by
          rcases List.mem_cons.1 hz with rfl | hz
          · exact h4
          · exact ltB_trans h4 (h1 z hz)
        have := rows_keep x (y :: r) hr
        rw [show ((litB y.k, .lit (litB y.v)) :: rowsD r : List (Lit × DN)) = rowsD (y :: r) from rfl, this, rows_front x _ hr]
theorem find_rows : ∀ (xs : List Rw), Rising xs → ∀ i (h : i < xs.length), (rowsD xs).find? (fun p => p.1.sameKey (litB xs[i].k)) = some (litB xs[i].k, .lit (litB xs[i].v))
  | [], _, i, h => by cases h
  | y :: r, hs, 0, h => by
    show ((litB y.k, .lit (litB y.v)) :: rowsD r).find? _ = _
    rw [List.find?_cons_of_pos]
    · rfl
    · show (litB y.k).sameKey (litB y.k) = true
      rw [lit_same, decide_eq_true rfl]
  | y :: r, hs, i + 1, h => by
    obtain ⟨h1, h2⟩ := List.pairwise_cons.1 hs
    have hi : i < r.length := Nat.lt_of_succ_lt_succ h
    show ((litB y.k, .lit (litB y.v)) :: rowsD r).find? _ = _
    rw [List.find?_cons_of_neg]
    · exact find_rows r h2 i hi
    · show ¬ (litB y.k).sameKey (litB r[i].k) = true
      rw [lit_same, decide_eq_false (ne_of_lt (h1 _ (List.getElem_mem hi)))]
      decide

/-- Block b is a map of texts that holds these rising rows. -/
def MapS (w : World) (b : Nat) (xs : List Rw) : Prop := w.ownsMap (H := Nat) Try.prog 9 (plainElem Try.prog 9) b xs.length (.map (rowsD xs)) ∧ Rising xs
theorem MapS.lt {w : World} {b : Nat} {xs : List Rw} (h : MapS w b xs) : b < w.heap.size := h.1.lt
theorem MapS.fr {F : Nat → Prop} {w w' : World} {b : Nat} {xs : List Rw} (h : MapS w b xs) (hf : Fr F w w') (hF : ¬ F b) : MapS w' b xs := by
  obtain ⟨⟨es, clock, hb, hr⟩, hs⟩ := h
  exact ⟨⟨es, clock, (hf.block b (Array.getElem?_eq_some_iff.1 hb).1 hF).trans hb, hr⟩, hs⟩
theorem MapS.made (w : World) : MapS (w.alloc (.map #[] 0)) w.heap.size [] := ⟨World.ownsMap_made w _ _ _, List.Pairwise.nil⟩
theorem MapS.exact {w : World} {b n : Nat} {xs : List Rw} (h : w.ownsMap (H := Nat) Try.prog 9 (plainElem Try.prog 9) b n (.map (rowsD xs))) : ∃ es clock, w.heap[b]? = some (.map es clock) ∧ es.size = xs.length ∧ w.ownsMap (H := Nat) Try.prog 9 (plainElem Try.prog 9) b xs.length (.map (rowsD xs)) := by
  obtain ⟨es, clock, hb, F, hn, hD⟩ := h
  have e : es.size = xs.length := by
    have := congrArg (fun D => match D with | .map l => l.length | _ => 0) hD
    simp only [length_sorted] at this
    simp [rowsD] at this
    exact this.symm
  exact ⟨es, clock, hb, e, es, clock, hb, F, by omega, hD⟩
theorem zeroS (w : World) : (zeroValue 9).run Try.prog w = .ok (.string ⟨#[]⟩) w := by kernel_rfl
theorem keyedS : Maps.Keyed Try.prog 9 := Maps.string_keyed Try.underlying9
theorem MapS.put {w : World} {b : Nat} {xs : List Rw} (h : MapS w b xs) (x : Rw) (h1 : x.k.size ≤ maxLen) (h2 : x.v.size ≤ maxLen) (hn : xs.length < maxLen) :
    ∃ w', (Instr.mapUpdate 30 (.map (some b)) (.string x.k) (.string x.v)).run Try.prog w = .ok () w' ∧ MapS w' b (putR x xs) ∧ Fr (fun k => k = b) w w' := by
  obtain ⟨w', hr, ho, hg⟩ := h.1.update keyedS Try.underlying30 hn (WideMaps.keyOf_string_mk Try.underlying9 h1) (plainElem_string Try.underlying9 h2)
  rw [DataW.put_eq] at ho
  rw [show putKey (Lit.string x.k.data.toList) (DataW.lit (Lit.string x.v.data.toList)) (rowsD xs) = rowsD (putR x xs) from putKey_rows x xs h.2] at ho
  obtain ⟨_, _, _, _, ho⟩ := MapS.exact ho
  exact ⟨w', hr, ⟨ho, put_rising h.2⟩, (Fr.of_grown hg).mono (fun k _ e => by cases e; rfl)⟩
theorem MapS.at {w : World} {b : Nat} {xs : List Rw} (h : MapS w b xs) (i : Nat) (hi : i < xs.length) (h1 : xs[i].k.size ≤ maxLen) :
    (Instr.lookup 30 (.map (some b)) (.string xs[i].k) false).run Try.prog w = .ok (.string xs[i].v) w := by
  obtain ⟨v, ps, hr, hv⟩ := h.1.lookup keyedS Try.underlying30 (zeroS w) (plainElem_string Try.underlying9 (by decide)) (WideMaps.keyOf_string_mk Try.underlying9 h1)
  obtain ⟨s, rfl, hz, hw⟩ := plainElem_string_inv Try.underlying9 hv
  have e : (DataW.map (rowsD xs)).atKey (litB xs[i].k) (.lit (litB ⟨#[]⟩)) = .lit (litB xs[i].v) := by
    rw [DataW.atKey, find_rows xs h.2 i hi]
  have hz2 := congrArg Prod.fst hz
  have hz3 : DataW.lit (litB xs[i].v) = (DataW.lit (litB s) : DN) := e.symm.trans hz2
  cases lit_inj (DataW.lit.inj hz3)
  exact hr
theorem MapS.len {w : World} {b : Nat} {xs : List Rw} (h : MapS w b xs) : ∃ es clock, w.heap[b]? = some (.map es clock) ∧ es.size = xs.length := by
  obtain ⟨es, clock, h1, h2, _⟩ := MapS.exact h.1
  exact ⟨es, clock, h1, h2⟩
theorem MapS.run_len {w : World} {b : Nat} {xs : List Rw} (h : MapS w b xs) (ty : Nat) : (Builtin.len_ #[30] ty #[.map (some b)]).run Try.prog w = .ok (.int .i64 xs.length) w := by
  obtain ⟨es, clock, h1, h2⟩ := h.len
  rw [run_len_map w 30 ty b es clock (by simp only [Program.mapKeyOf, Program.mapElemOf, Try.underlying30]) h1, h2]
  rfl
end Go.Proofs.Ytnilbpofmohfhaa
