/- Plain law of rows: what lies in a span is what has it; parts of a cut; bytes read back; what was taken put back. -/
import Derived.Test.YtnilbpofmohfhaaRowL
import Derived.Test.YtnilbpofmohfhaaRowsE
import Derived.Test.YtnilbpofmohfhaaReadE
import Derived.Test.YtnilbpofmohfhaaRowW
import Derived.Test.YtnilbpofmohfhaaCut
namespace Go.Proofs.Ytnilbpofmohfhaa

def Good (xs : List Rw) : Prop := Rising xs ∧ (∀ x ∈ xs, rwB x = true) ∧ xs.length ≤ 400
theorem Good.nil : Good [] := ⟨List.Pairwise.nil, (fun _ h => by cases h), by simp⟩

theorem parts_eq (xs : List Rw) (p q : Nat) (hpq : p ≤ q) : xs = xs.take p ++ ((xs.take q).drop p ++ xs.drop q) := by
  rw [← List.append_assoc]
  have : xs.take p = (xs.take q).take p := by rw [List.take_take, Nat.min_eq_left hpq]
  rw [this, List.take_append_drop, List.take_append_drop]
theorem filter_range (P : Rw → Bool) (xs : List Rw) (p q : Nat) (hpq : p ≤ q) (hq : q ≤ xs.length) (h : ∀ j (hj : j < xs.length), P xs[j] = decide (p ≤ j ∧ j < q)) :
    xs.filter P = (xs.take q).drop p ∧ xs.filter (fun x => !P x) = xs.take p ++ xs.drop q := by
  have h1 : ∀ a ∈ xs.take p, P a = false := by
    intro a ha
    obtain ⟨j, hj, rfl⟩ := List.mem_take_iff_getElem.1 ha
    rw [h j (by omega)]
    exact decide_eq_false (by omega)
  have h2 : ∀ a ∈ (xs.take q).drop p, P a = true := by
    intro a ha
    obtain ⟨j, hj, rfl⟩ := List.mem_drop_iff_getElem.1 ha
    rw [List.length_take] at hj
    rw [List.getElem_take, h (p + j) (by omega)]
    exact decide_eq_true (by omega)
  have h3 : ∀ a ∈ xs.drop q, P a = false := by
    intro a ha
    obtain ⟨j, hj, rfl⟩ := List.mem_drop_iff_getElem.1 ha
    rw [h (q + j) (by omega)]
    exact decide_eq_false (by omega)
  constructor
  · conv => lhs; rw [parts_eq xs p q hpq]
    rw [List.filter_append, List.filter_append, List.filter_eq_nil_iff.2 (fun a ha => by simp [h1 a ha]), List.filter_eq_self.2 h2, List.filter_eq_nil_iff.2 (fun a ha => by simp [h3 a ha])]
    simp
  · conv => lhs; rw [parts_eq xs p q hpq]
    rw [List.filter_append, List.filter_append, List.filter_eq_self.2 (fun a ha => by simp [h1 a ha]), List.filter_eq_nil_iff.2 (fun a ha => by simp [h2 a ha]), List.filter_eq_self.2 (fun a ha => by simp [h3 a ha])]
    simp
theorem key_of_rw {x : Rw} (h : rwB x = true) : keyB x.k = true ∧ x.v.size ≤ 20 := by simpa [rwB] using h
theorem in_filter {xs : List Rw} (hs : Rising xs) (hk : ∀ x ∈ xs, rwB x = true) (lo hi : ByteArray) :
    inR lo hi xs = xs.filter (fun x => hasB lo hi x.k) ∧ outR lo hi xs = xs.filter (fun x => !hasB lo hi x.k) := by
  unfold inR outR bnds
  cases hr : rightB lo hi with
  | false =>
    have hf : ∀ x : Rw, hasB lo hi x.k = false := fun x => by simp [hasB, hr]
    constructor
    · simp only [Bool.false_eq_true, if_false, List.take_zero, List.drop_nil]
      rw [List.filter_eq_nil_iff.2 (fun a _ => by simp [hf a])]
    · simp only [Bool.false_eq_true, if_false, List.take_zero, List.drop_zero, List.nil_append]
      rw [List.filter_eq_self.2 (fun a _ => by simp [hf a])]
  | true =>
    have hb := bnds_le lo hi xs hs
    unfold bnds at hb
    rw [hr] at hb
    simp only [if_true] at hb ⊢
    have h := filter_range (fun x => hasB lo hi x.k) xs _ _ hb.1 hb.2 (by
      intro j hj
      have hkey := (key_of_rw (hk _ (List.getElem_mem hj))).1
      have h1 : ltB xs[j].k lo = decide (j < posR lo xs) := by
        by_cases c : j < posR lo xs
        · rw [pos_lt hs j hj c, decide_eq_true c]
        · rw [pos_ge hs j hj (by omega), decide_eq_false c]
      have h2 : (noneB hi || ltB xs[j].k hi) = decide (j < if noneB hi then xs.length else posR hi xs) := by
        cases hn : noneB hi with
        | true => simp [hj]
        | false =>
          by_cases c : j < posR hi xs
          · rw [pos_lt hs j hj c]; simp [c]
          · rw [pos_ge hs j hj (by omega)]; simp [c]
      show (rightB lo hi && keyB xs[j].k && !(ltB xs[j].k lo) && (noneB hi || ltB xs[j].k hi)) = _
      rw [hr, hkey, h1, h2, Bool.eq_iff_iff]
      simp)
    exact ⟨h.1.symm, h.2.symm⟩

theorem has_all_key (k : ByteArray) (h : keyB k = true) : hasB ByteArray.empty ByteArray.empty k = true := by
  have h2 : rightB ByteArray.empty ByteArray.empty = true := by decide +kernel
  have h3 : noneB ByteArray.empty = true := by decide +kernel
  have h4 : ltB k ByteArray.empty = false := by simp [ltB]
  simp [hasB, h, h2, h3, h4]
theorem filter_split {xs : List Rw} (hs : Rising xs) {lo hi k : ByteArray} (hr : rightB lo hi = true) (hk : hasB lo hi k = true) (hne : k ≠ lo) :
    rightB lo k = true ∧ rightB k hi = true ∧ xs.filter (fun x => hasB lo hi x.k) = xs.filter (fun x => hasB lo k x.k) ++ xs.filter (fun x => hasB k hi x.k) := by
  have hk' := hk
  simp only [hasB, Bool.and_eq_true, Bool.not_eq_true'] at hk'
  obtain ⟨⟨⟨_, kk⟩, kl⟩, kh⟩ := hk'
  have hlk : ltB lo k = true := by
    cases h : ltB lo k with
    | true => rfl
    | false => exact absurd (ltB_antisymm kl h) hne
  have hnk : noneB k = false := by
    cases h : noneB k with
    | false => rfl
    | true =>
      have : k.size = 0 := by simpa [noneB] using h
      simp [keyB, this] at kk
  have r1 : rightB lo k = true := by
    have : (noneB lo || keyB lo) = true := by
      unfold rightB at hr
      simp only [Bool.and_eq_true] at hr
      exact hr.1
    simp [rightB, this, kk, hlk]
  have r2 : rightB k hi = true := by
    unfold rightB at hr ⊢
    simp only [Bool.and_eq_true] at hr
    rw [kk]
    cases hn : noneB hi with
    | true => simp
    | false =>
      rw [hn] at hr kh
      simp at hr kh
      simp [hr.2.1, kh]
  refine ⟨r1, r2, ?_⟩
  have e1 : ∀ y, hasB lo k y = (keyB y && !ltB y lo && ltB y k) := fun y => by simp [hasB, r1, hnk]
  have e2 : ∀ y, hasB k hi y = (keyB y && !ltB y k && (noneB hi || ltB y hi)) := fun y => by simp [hasB, r2]
  have e3 : ∀ y, hasB lo hi y = (keyB y && !ltB y lo && (noneB hi || ltB y hi)) := fun y => by simp [hasB, hr]
  have lo_lt : ∀ y, ltB y k = true → (noneB hi || ltB y hi) = true := fun y hy => by
    cases hn : noneB hi with
    | true => rfl
    | false =>
      rw [hn] at kh
      simp at kh
      simp [ltB_trans hy kh]
  have ge_lo : ∀ y, ltB y k = false → ltB y lo = false := fun y hy => by
    cases h : ltB y lo with
    | false => rfl
    | true => have := ltB_trans h hlk; rw [hy] at this; cases this
  clear hk r1 r2 hr kh
  induction xs with
  | nil => rfl
  | cons x r ih =>
    have hs' := (List.pairwise_cons.1 hs)
    have ih := ih hs'.2
    rw [List.filter_cons, List.filter_cons, List.filter_cons, ih]
    cases hx : ltB x.k k with
    | true =>
      have a1 : hasB k hi x.k = false := by rw [e2, hx]; simp
      have a2 : hasB lo hi x.k = hasB lo k x.k := by rw [e1, e3, hx, lo_lt _ hx]
      rw [a1, a2]
      cases hasB lo k x.k <;> simp
    | false =>
      have a1 : hasB lo k x.k = false := by rw [e1, hx]; simp
      have a2 : hasB lo hi x.k = hasB k hi x.k := by rw [e2, e3, hx, ge_lo _ hx]
      have a3 : r.filter (fun x => hasB lo k x.k) = [] := by
        rw [List.filter_eq_nil_iff]
        intro y hy
        have h1 : ltB x.k y.k = true := hs'.1 y hy
        have h2 : ltB y.k k = false := by
          cases h : ltB y.k k with
          | false => rfl
          | true => have := ltB_trans h1 h; rw [hx] at this; cases this
        rw [e1, h2]
        simp
      rw [a1, a2, a3]
      cases hasB k hi x.k <;> simp
theorem cut_flat {xs : List Rw} (hs : Rising xs) (hi : ByteArray) : ∀ (ks : List ByteArray) (lo : ByteArray), rightB lo hi = true →
    (cutL lo hi ks).flatMap (fun s => xs.filter (fun x => hasB s.k s.v x.k)) = xs.filter (fun x => hasB lo hi x.k)
  | [], lo, _ => by simp [cutL]
  | k :: r, lo, hr => by
    rw [cutL]
    split
    · rename_i hh
      split
      · exact cut_flat hs hi r lo hr
      · rename_i hne
        obtain ⟨_, r2, e⟩ := filter_split hs hr hh hne
        rw [List.flatMap_cons, cut_flat hs hi r k r2, e]
    · exact cut_flat hs hi r lo hr

/-! values -/
theorem getR_cons (key : ByteArray) (y : Rw) (r : List Rw) : getR key (y :: r) = if ltB y.k key then getR key r else if y.k = key then y.v else ⟨#[]⟩ := by
  unfold getR
  rw [posR_cons]
  cases ltB y.k key <;> simp
theorem val_hit (key : ByteArray) : ∀ {xs : List Rw}, Rising xs → (hitR key xs = (valR key xs).isSome) ∧ (hitR key xs = true → valR key xs = some (getR key xs))
  | [], _ => ⟨rfl, fun h => by cases h⟩
  | y :: r, hs => by
    have hs' := List.pairwise_cons.1 hs
    have ih := val_hit key hs'.2
    rw [hitR_cons, getR_cons, valR]
    cases hy : ltB y.k key with
    | true =>
      have : y.k ≠ key := ne_of_lt hy
      simp only [if_true, if_neg this]
      exact ih
    | false =>
      simp only [Bool.false_eq_true, if_false]
      by_cases he : y.k = key
      · simp [he]
      · have : valR key r = none := val_above fun z hz => by
          have h1 : ltB y.k z.k = true := hs'.1 z hz
          cases h2 : ltB key y.k with
          | true => exact ltB_trans h2 h1
          | false => exact absurd (ltB_antisymm hy h2) he
        simp [he, this]
theorem val_none {key : ByteArray} : ∀ {xs : List Rw}, (∀ x ∈ xs, x.k ≠ key) → valR key xs = none
  | [], _ => rfl
  | y :: r, h => by rw [valR, if_neg (h y (by simp)), val_none fun x hx => h x (by simp [hx])]
theorem val_mem : ∀ {xs : List Rw}, Rising xs → ∀ x ∈ xs, valR x.k xs = some x.v
  | y :: r, hs, x, hx => by
    have hs' := List.pairwise_cons.1 hs
    rw [valR]
    rcases List.mem_cons.1 hx with rfl | hx
    · simp
    · have : y.k ≠ x.k := ne_of_lt (hs'.1 x hx)
      rw [if_neg this]
      exact val_mem hs'.2 x hx
theorem key_inj {xs : List Rw} (hs : Rising xs) {x y : Rw} (hx : x ∈ xs) (hy : y ∈ xs) (h : x.k = y.k) : x = y := by
  have h1 := val_mem hs x hx
  have h2 := val_mem hs y hy
  rw [h, h2] at h1
  cases x; cases y
  simp_all
theorem val_filter {xs : List Rw} (hs : Rising xs) (P : Rw → Bool) (x : Rw) (hx : x ∈ xs) : valR x.k (xs.filter P) = if P x then some x.v else none := by
  have hf : Rising (xs.filter P) := List.Pairwise.filter _ hs
  cases hp : P x with
  | true => rw [if_pos rfl]; exact val_mem hf x (List.mem_filter.2 ⟨hx, hp⟩)
  | false =>
    rw [if_neg (by simp)]
    refine val_none fun y hy e => ?_
    obtain ⟨h1, h2⟩ := List.mem_filter.1 hy
    rw [key_inj hs h1 hx e, hp] at h2
    cases h2
theorem last_val (key : ByteArray) : ∀ {l : List Rw}, Rising l → lastR key l = valR key l
  | [], _ => rfl
  | x :: r, hs => by
    have hs' := List.pairwise_cons.1 hs
    rw [lastR, valR, last_val key hs'.2]
    by_cases he : x.k = key
    · have : valR key r = none := val_above fun z hz => by rw [← he]; exact hs'.1 z hz
      simp [he, this]
    · cases valR key r <;> simp [he]
theorem put_back {xs : List Rw} (h : Good xs) (P : Rw → Bool) : putL (xs.filter (fun x => !P x)) (xs.filter P) = xs := by
  obtain ⟨hs, _, _⟩ := h
  have h1 : Rising (xs.filter P) := List.Pairwise.filter _ hs
  have h2 : Rising (xs.filter (fun x => !P x)) := List.Pairwise.filter _ hs
  refine val_ext (putL_rising h2 _) hs (fun key => ?_)
  rw [val_putL key _ _ h2, last_val key h1]
  by_cases hx : ∃ x ∈ xs, x.k = key
  · obtain ⟨x, hx, rfl⟩ := hx
    rw [val_filter hs _ x hx, val_filter hs _ x hx, val_mem hs x hx]
    cases P x <;> simp
  · have hn : ∀ x ∈ xs, x.k ≠ key := fun x hx' e => hx ⟨x, hx', e⟩
    rw [val_none (fun x hx => hn x (List.mem_filter.1 hx).1), val_none (fun x hx => hn x (List.mem_filter.1 hx).1), val_none hn]
theorem putE_back {xs : List Rw} (h : Good xs) (P : Rw → Bool) : putE (xs.filter (fun x => !P x)) (xs.filter P) = 0 := by
  unfold putE
  rw [if_neg, if_neg]
  · rw [put_back h]; have := h.2.2; omega
  · simp only [List.any_eq_true, not_exists, not_and]
    intro x hx
    simp [h.2.1 x (List.mem_filter.1 hx).1]

/-! bytes -/
theorem getV_var (n : Nat) (hn : n ≤ 16383) (rest : List UInt8) : getV 0 0 (varB n ++ rest) = some (n, rest) := by
  by_cases h : n ≤ 127
  · have e : (UInt8.ofNat n).toNat = n := by simp; omega
    rw [varB_le n h]
    simp only [List.cons_append, List.nil_append, getV, e]
    rw [if_neg (by omega), if_pos (by omega), if_neg (by simp; omega)]
    simp
    omega
  · have e : (UInt8.ofNat (n % 128 + 128)).toNat = n % 128 + 128 := by simp; omega
    have e2 : (UInt8.ofNat (n / 128)).toNat = n / 128 := by simp; omega
    rw [varB_gt n (by omega), varB_le (n / 128) (by omega)]
    simp only [List.cons_append, List.nil_append, getV, e, e2]
    rw [if_neg (by omega), if_neg (by omega), if_neg (by omega), if_pos (by omega), if_neg (by simp; omega)]
    simp
    omega
theorem num_var (n most : Nat) (hn : n ≤ 16383) (hm : n ≤ most) (rest : List UInt8) : numR most false (varB n ++ rest) = (n, false, rest) := by
  show numM most (getV 0 0 (varB n ++ rest)) = _
  rw [getV_var n hn, numM, if_neg (by omega)]
theorem row_back (ps rest : List UInt8) (hn : ps.length ≤ 20) : rowRd 20 false (rowB ps ++ rest) = (ps, false, rest) := by
  unfold rowRd rowB
  rw [List.append_assoc, num_var ps.length 20 (by omega) hn]
  simp
theorem one_back (x : Rw) (h : rwB x = true) (rest : List UInt8) : oneR false (pairB x ++ rest) = (x, false, rest) := by
  obtain ⟨h1, h2⟩ := key_of_rw h
  have h3 : x.k.size ≤ 20 := by
    simp only [keyB, Bool.and_eq_true, decide_eq_true_eq] at h1
    exact h1.1.2
  have e : pairB x ++ rest = rowB x.k.data.toList ++ (rowB x.v.data.toList ++ rest) := by simp [pairB, textsB]
  unfold oneR
  rw [e, row_back _ _ (by simpa using h3)]
  simp only
  rw [row_back _ _ (by simpa using h2)]
theorem loop_back (rest : List UInt8) : ∀ (l acc : List Rw), Rising (acc ++ l) → (∀ x ∈ l, rwB x = true) → loopR l.length acc false (l.flatMap pairB ++ rest) = (some (acc ++ l), false, rest)
  | [], acc, _, _ => by simp [loopR]
  | x :: r, acc, hs, hk => by
    rw [List.length_cons, loopR, List.flatMap_cons, List.append_assoc, one_back x (hk x (by simp))]
    have hf : fitsR acc x = true := by
      unfold fitsR
      cases hl : acc.getLast? with
      | none => rfl
      | some z =>
        have hz := List.mem_of_getLast? hl
        exact (List.pairwise_append.1 hs).2.2 z hz x (by simp)
    simp only [Bool.not_false, Bool.true_and, hk x (by simp), hf, Bool.and_self, if_true]
    rw [loop_back rest r (acc ++ [x]) (by simpa using hs) (fun y hy => hk y (by simp [hy]))]
    simp
theorem read_back {xs : List Rw} (h : Good xs) (rest : List UInt8) : readRows (bytesR xs ++ rest) = (some xs, false, rest) := by
  unfold readRows bytesR
  rw [List.append_assoc, num_var xs.length 400 (by have := h.2.2; omega) h.2.2]
  simp only [Bool.false_eq_true, if_false]
  have := loop_back rest xs [] (by simpa using h.1) h.2.1
  simpa using this

theorem mem_putR' {x y : Rw} {xs : List Rw} (h : y ∈ putR x xs) : y = x ∨ y ∈ xs := by
  unfold putR at h
  split at h
  · rcases List.mem_or_eq_of_mem_set h with h | h
    · exact .inr h
    · exact .inl h
  · simp only [List.mem_append, List.mem_singleton] at h
    rcases h with (h | h) | h
    · exact .inr (List.mem_of_mem_take h)
    · exact .inl h
    · exact .inr (List.mem_of_mem_drop h)
theorem mem_putL' {y : Rw} : ∀ (l xs : List Rw), y ∈ putL xs l → y ∈ xs ∨ y ∈ l
  | [], xs, h => .inl h
  | x :: r, xs, h => by
    rcases mem_putL' r (putR x xs) h with h | h
    · rcases mem_putR' h with h | h
      · exact .inr (by simp [h])
      · exact .inl h
    · exact .inr (by simp [h])
theorem good_put {xs : List Rw} (h : Good xs) (l : List Rw) : Good (putT xs l) := by
  unfold putT
  split
  · rename_i he
    unfold putE at he
    split at he
    · cases he
    · rename_i ha
      split at he
      · cases he
      · rename_i hl
        refine ⟨putL_rising h.1 l, fun x hx => ?_, by omega⟩
        rcases mem_putL' l xs hx with hx | hx
        · exact h.2.1 x hx
        · simp only [List.any_eq_true, not_exists, not_and, Bool.not_eq_true', Bool.not_eq_false] at ha
          exact ha x hx
  · exact h
theorem good_filter {xs : List Rw} (h : Good xs) (P : Rw → Bool) : Good (xs.filter P) :=
  ⟨List.Pairwise.filter _ h.1, fun x hx => h.2.1 x (List.mem_filter.1 hx).1, Nat.le_trans (List.length_filter_le _ _) h.2.2⟩
theorem good_in {xs : List Rw} (h : Good xs) (lo hi : ByteArray) : Good (inR lo hi xs) ∧ Good (outR lo hi xs) := by
  rw [(in_filter h.1 h.2.1 lo hi).1, (in_filter h.1 h.2.1 lo hi).2]
  exact ⟨good_filter h _, good_filter h _⟩
theorem in_every {xs : List Rw} (h : Good xs) : inR ByteArray.empty ByteArray.empty xs = xs := by
  rw [(in_filter h.1 h.2.1 _ _).1]
  exact List.filter_eq_self.2 fun x hx => has_all_key _ (key_of_rw (h.2.1 x hx)).1
theorem cut_every {xs : List Rw} (h : Good xs) (ats : List ByteArray) : (cutB ByteArray.empty ByteArray.empty ats).flatMap (fun s => inR s.k s.v xs) = xs := by
  have hr : rightB ByteArray.empty ByteArray.empty = true := by decide +kernel
  unfold cutB
  rw [if_pos hr]
  have e : (fun s : Rw => inR s.k s.v xs) = fun s => xs.filter (fun x => hasB s.k s.v x.k) := by
    funext s
    exact (in_filter h.1 h.2.1 _ _).1
  rw [e, cut_flat h.1 _ _ _ hr]
  exact List.filter_eq_self.2 fun x hx => has_all_key _ (key_of_rw (h.2.1 x hx)).1
theorem filter_lengths (P : Rw → Bool) : ∀ xs : List Rw, (xs.filter (fun x => !P x)).length + (xs.filter P).length = xs.length
  | [] => rfl
  | x :: r => by
    have := filter_lengths P r
    rw [List.filter_cons, List.filter_cons]
    cases P x <;> simp <;> omega
theorem parts_law {xs : List Rw} (h : Good xs) (lo hi : ByteArray) : inR lo hi (outR lo hi xs) = [] ∧ (outR lo hi xs).length + (inR lo hi xs).length = xs.length ∧
    (∀ x ∈ xs, hitR x.k (outR lo hi xs) = !hasB lo hi x.k ∧ (hasB lo hi x.k = false → getR x.k (outR lo hi xs) = x.v)) ∧ putE (outR lo hi xs) (inR lo hi xs) = 0 ∧ putT (outR lo hi xs) (inR lo hi xs) = xs := by
  obtain ⟨e1, e2⟩ := in_filter h.1 h.2.1 lo hi
  have hg := (good_in h lo hi).2
  refine ⟨?_, ?_, ?_, ?_, ?_⟩
  · rw [(in_filter hg.1 hg.2.1 lo hi).1, e2, List.filter_filter, List.filter_eq_nil_iff]
    intro x _
    cases hasB lo hi x.k <;> simp
  · rw [e1, e2]; exact filter_lengths _ xs
  · intro x hx
    have hf : Rising (xs.filter (fun x => !hasB lo hi x.k)) := List.Pairwise.filter _ h.1
    obtain ⟨h1, h2⟩ := val_hit x.k hf
    have h3 := val_filter h.1 (fun x => !hasB lo hi x.k) x hx
    rw [e2]
    cases hq : hasB lo hi x.k with
    | true =>
      rw [hq] at h3
      rw [h1, h3]
      simp
    | false =>
      rw [hq] at h3
      simp only [Bool.not_false, if_true] at h3
      have h4 : hitR x.k (xs.filter (fun x => !hasB lo hi x.k)) = true := by rw [h1, h3]; rfl
      refine ⟨by rw [h4]; rfl, fun _ => ?_⟩
      have h5 := h2 h4
      rw [h3] at h5
      exact (Option.some.inj h5).symm
  · rw [e1, e2]; exact putE_back h _
  · unfold putT
    rw [e1, e2, putE_back h, if_pos rfl, put_back h]
end Go.Proofs.Ytnilbpofmohfhaa
