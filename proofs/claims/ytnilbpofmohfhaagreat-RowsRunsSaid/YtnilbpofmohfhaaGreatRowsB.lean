/- Rows, second part: cells of rows; Clone; the order's closure; BinarySearchFunc; where a key stands. -/
import Derived.Test.YtnilbpofmohfhaaGreatRowsA
import Derived.WalkSpells
namespace Go.Proofs.YtnilbpofmohfhaaGreat
open Go.RowKit

def cellsR : List Rw → List Value
  | [] => []
  | x :: r => .string x.k :: .string x.v :: cellsR r
theorem cellsR_length : ∀ xs, (cellsR xs).length = xs.length * 2
  | [] => rfl
  | x :: r => by simp [cellsR, cellsR_length r, Nat.succ_mul]
theorem cellsR_append : ∀ xs ys, cellsR (xs ++ ys) = cellsR xs ++ cellsR ys
  | [], ys => rfl
  | x :: r, ys => by simp [cellsR, cellsR_append r ys]
theorem cellsR_one : ∀ xs, ∀ u ∈ cellsR xs, u.oneCell' = true
  | [], u, h => by cases h
  | x :: r, u, h => by
    simp only [cellsR, List.mem_cons] at h
    rcases h with rfl | rfl | h
    · rfl
    · rfl
    · exact cellsR_one r u h
theorem cellsR_k : ∀ xs i (h : i < xs.length), (cellsR xs)[i * 2]? = some (.string xs[i].k)
  | x :: r, 0, _ => rfl
  | x :: r, i + 1, h => by rw [cellsR, show (i + 1) * 2 = i * 2 + 1 + 1 by omega]; exact cellsR_k r i (by simpa using h)
theorem cellsR_v : ∀ xs i (h : i < xs.length), (cellsR xs)[i * 2 + 1]? = some (.string xs[i].v)
  | x :: r, 0, _ => rfl
  | x :: r, i + 1, h => by rw [cellsR, show (i + 1) * 2 + 1 = i * 2 + 1 + 1 + 1 by omega]; exact cellsR_v r i (by simpa using h)
theorem cellsR_of (xs : List Rw) (j : Nat) (u : Value) (h : (cellsR xs)[j]? = some u) : ∃ i, ∃ hi : i < xs.length, (j = i * 2 ∧ u = .string xs[i].k) ∨ (j = i * 2 + 1 ∧ u = .string xs[i].v) := by
  have hj : j < xs.length * 2 := by rw [← cellsR_length]; exact (List.getElem?_eq_some_iff.1 h).1
  refine ⟨j / 2, by omega, ?_⟩
  rcases Nat.mod_two_eq_zero_or_one j with e | e
  · have e1 : j = j / 2 * 2 := by omega
    have := cellsR_k xs (j / 2) (by omega)
    rw [← e1, h] at this
    exact .inl ⟨e1, Option.some.inj this⟩
  · have e1 : j = j / 2 * 2 + 1 := by omega
    have := cellsR_v xs (j / 2) (by omega)
    rw [← e1, h] at this
    exact .inr ⟨e1, Option.some.inj this⟩

theorem RdR.src {w : World} {v : Value} {xs : List Rw} (h : RdR w v xs) : Src w 2 v xs.length (cellsR xs) := by
  obtain ⟨hm, A, cap, rfl, h⟩ := h
  refine ⟨cellsR_length xs, cellsR_one xs, ?_⟩
  rcases h with rfl | ⟨b, off, rfl, hb, hc⟩
  · exact ⟨A, cap, rfl, fun _ => rfl, fun ad _ j u hu => by cases hu⟩
  · refine ⟨_, cap, rfl, (fun h => by cases h), fun ad h j u hu => ?_⟩
    cases h
    obtain ⟨i, hi, ⟨rfl, rfl⟩ | ⟨rfl, rfl⟩⟩ := cellsR_of xs j u hu
    · rw [addr_add]; exact (hc i hi).1
    · rw [addr_add]; exact (hc i hi).2

/-- Rows that a call owns. -/
def OwnR (w : World) (v : Value) (xs : List Rw) : Prop := w.ownsRow 0 48 2 v xs.length (cellsR xs)
theorem OwnR.mono {F : Nat → Prop} {w w' : World} {v : Value} {xs : List Rw} (h : OwnR w v xs) (hf : Fr F w w') (hF : ∀ k, v.ownBlock = some k → ¬ F k) : OwnR w' v xs := own_mono h hf hF
theorem OwnR.rd {w : World} {v : Value} {xs : List Rw} (h : OwnR w v xs) : RdR w v xs := by
  have hc := fun g hg => World.ownsRow.cells h (g := g) hg
  obtain ⟨hl, h2⟩ := h
  rcases h2 with ⟨rfl, h0⟩ | ⟨g, cap, cur, rfl, hb, hh, hn, hm, r⟩
  · have : xs = [] := List.eq_nil_of_length_eq_zero h0
    subst this
    exact ⟨by simp, none, 0, rfl, .inl rfl⟩
  · refine ⟨by simp only [maxLen] at hm; omega, _, cap, rfl, .inr ⟨g, 0, rfl, (Array.getElem?_eq_some_iff.1 hh).1, fun i hi => ⟨?_, ?_⟩⟩⟩
    · have := hc g rfl (i * 2) _ (cellsR_k xs i hi)
      rwa [addr_add] at this
    · have := hc g rfl (i * 2 + 1) _ (cellsR_v xs i hi)
      rwa [addr_add] at this
theorem OwnR.form {w : World} {v : Value} {xs : List Rw} (h : OwnR w v xs) : ∃ A n c, v = .slice A n c := by
  obtain ⟨_, A, c, rfl, _⟩ := h.rd
  exact ⟨A, _, c, rfl⟩
/-- Laid since w. -/
def New (w : World) (v : Value) : Prop := ∀ k, v.ownBlock = some k → w.heap.size ≤ k

theorem infoRow : (Tryz.prog.info? 48).map (fun i => (i.zero, i.size, i.bytes)) = some (some (.agg #[.string ⟨#[]⟩, .string ⟨#[]⟩]), 2, 32) := by kernel_rfl

set_option maxRecDepth 100000 in
set_option maxHeartbeats 1000000 in
theorem cloneR_any (w : World) (v : Value) (xs : List Rw) (hr : RdR w v xs) (hB : xs.length ≤ 4398046511104) :
    Calls Tryz.prog 26 #[v] w fun e w' => ∃ v', e = .returned v' ∧ OwnR w' v' xs ∧ New w v' ∧ Fr Nix w w' := by
  obtain ⟨i0, hi, hz0, hz1, hz2⟩ := info_parts infoRow
  have hs := hr.src
  obtain ⟨hm, A, cap, rfl, hr⟩ := hr
  have he := fun (w : World) (a : Option Addr) (n c : Nat) => Lib.run_eql_slice_nil (P := Tryz.prog) w 29 48 a n c 0 0 Tryz.underlying29
  cases A with
  | none =>
    have : xs = [] := by rcases hr with h | ⟨b, off, h, _⟩; exact h; cases h
    subst this
    clear hr hs
    go_enter Tryz.func26, Tryz.ntmps26
    go_wp2
    go_ret
    refine ⟨_, rfl, World.ownsRow_nil _ _ _ _, (fun k hk => by cases hk), Fr.refl _ _⟩
  | some ad =>
    have HS := Lib.hid hs
    clear hs hr
    go_enter Tryz.func26, Tryz.ntmps26
    go_wp2_with (at_builtin; refine wp_append rfl _ _ 29 rfl 48 i0 _ 2 32 Tryz.underlying29 hi hz0 hz1 hz2 rfl (by decide) _ 0 [] rfl ?c1 _ rfl xs.length (cellsR xs) ?c2 ?c3 ?c4 ?c5)
    case c1 => exact own_empty w _ _
    case c2 => exact HS.out.mono ((Fr.refl Nix _).alloc _) (fun _ _ h => h)
    case c3 => simp only [maxLen]; omega
    case c4 => omega
    case c5 =>
      intro v' w' ho hf hat
      go_wp2
      go_ret
      refine ⟨_, rfl, ?_, ?_, ((Fr.refl Nix _).alloc _).then hf ?_⟩
      · exact ho
      · intro k hk
        replace hk : v'.ownBlock = some k := hk
        rcases hat with e | e
        · rw [e] at hk; simp [Value.ownBlock] at hk; omega
        · rw [e] at hk; cases hk; omega
      · intro k hk h
        simp [Foot, Value.ownBlock] at h
        omega

set_option maxHeartbeats 1000000 in
theorem at1_any (x : Rw) (key : ByteArray) (w : World) : Calls Tryz.prog 54 #[x.val, .string key] w fun e w' => e = .returned (.int .i64 (cmpB x.k key)) ∧ Fr Nix w w' := by
  obtain ⟨k, v⟩ := x
  unfold Rw.val
  go_enter Tryz.func54, Tryz.ntmps54
  go_wp2_with (go_at_call 55; refine (strCompare_any _ _ _).mono ?_; rintro e w' ⟨rfl, rfl⟩)
  go_ret
  exact ⟨rfl, (Fr.refl _ _).alloc _⟩

def Rising (xs : List Rw) : Prop := xs.Pairwise (fun a b => ltB a.k b.k = true)
/-- Where a key stands among rising rows, or would. -/
def posR (key : ByteArray) : List Rw → Nat
  | [] => 0
  | x :: r => if ltB x.k key then posR key r + 1 else 0
def hitR (key : ByteArray) (xs : List Rw) : Bool := match xs[posR key xs]? with
  | some x => decide (x.k = key)
  | none => false
theorem posR_le (key : ByteArray) : ∀ xs, posR key xs ≤ xs.length
  | [] => Nat.le_refl _
  | x :: r => by
    rw [posR]
    split
    · exact Nat.succ_le_succ (posR_le key r)
    · exact Nat.zero_le _
theorem posR_eq (key : ByteArray) : ∀ (xs : List Rw) (n : Nat), n ≤ xs.length → (∀ j (h : j < xs.length), j < n → ltB xs[j].k key = true) → (∀ j (h : j < xs.length), n ≤ j → ltB xs[j].k key = false) → posR key xs = n
  | [], n, hn, _, _ => by simp at hn; simp [posR, hn]
  | x :: r, 0, _, _, h2 => by
    have h0 : ltB x.k key = false := h2 0 (Nat.zero_lt_succ _) (Nat.le_refl _)
    rw [posR, if_neg (by simp [h0])]
  | x :: r, n + 1, hn, h1, h2 => by
    have h0 : ltB x.k key = true := h1 0 (Nat.zero_lt_succ _) (Nat.zero_lt_succ _)
    rw [posR, if_pos h0, posR_eq key r n (Nat.le_of_succ_le_succ hn) (fun j h hj => h1 (j + 1) (Nat.succ_lt_succ h) (Nat.succ_lt_succ hj)) (fun j h hj => h2 (j + 1) (Nat.succ_lt_succ h) (Nat.succ_le_succ hj))]
theorem rising_at {xs : List Rw} (h : Rising xs) {i j : Nat} (hi : i < j) (hj : j < xs.length) : ltB (xs[i]'(by omega)).k xs[j].k = true :=
  List.pairwise_iff_getElem.1 h i j (by omega) hj hi
theorem lt_of_lt_not {a b k : ByteArray} (h : ltB a b = true) (hk : ltB a k = false) : ltB b k = false := by
  cases hb : ltB b k with
  | false => rfl
  | true => rw [ltB_trans h hb] at hk; cases hk

set_option maxHeartbeats 4000000 in
theorem bsearch_any (w : World) (v : Value) (xs : List Rw) (key : ByteArray) (hr : RdR w v xs) (hs : Rising xs) (hB : xs.length ≤ 4398046511104) :
    Calls Tryz.prog 53 #[v, .string key, .func (.func 54) #[] #[]] w fun e w' =>
      e = .returned (.tuple #[.int .i64 (posR key xs : Nat), .bool (hitR key xs)]) ∧ Fr Nix w w' := by
  obtain ⟨hm, A, cap, rfl, hr⟩ := hr
  have HR := Lib.hid hr
  have HS := Lib.hid hs
  clear hr hs
  go_enter Tryz.func53, Tryz.ntmps53
  go_wp2
  go_loopg [9, 10] xs.length (fun gg s9 s10 wr => ∃ lo hi : Nat, lo ≤ hi ∧ hi ≤ xs.length ∧ hi - lo ≤ gg ∧ s9 = .int .i64 lo ∧ s10 = .int .i64 hi ∧
    Hid (Fr Nix w wr ∧ (∀ j (h : j < xs.length), j < lo → ltB xs[j].k key = true) ∧ (∀ j (h : j < xs.length), hi ≤ j → ltB xs[j].k key = false)))
  case atStart => exact ⟨0, xs.length, Nat.zero_le _, Nat.le_refl _, by omega, rfl, rfl, Fr.refl _ _, fun j _ h => absurd h (Nat.not_lt_zero _), fun j h h' => by omega⟩
  case round =>
    obtain ⟨lo, hi, hlh, hhi, hg, rfl, rfl, H⟩ := hrel
    by_cases hlt : lo < hi
    · rcases HR.out with h0 | ⟨b, off, rfl, hb, hc⟩
      · rw [h0] at hhi; simp at hhi; omega
      have hmid : (lo + hi) / 2 < xs.length := by omega
      have c0 := (H.out.1.cell (p := ⟨b, off + (lo + hi) / 2 * 2, none⟩) hb (fun h => h)).trans (hc _ hmid).1
      have c1 := (H.out.1.cell (p := ⟨b, off + (lo + hi) / 2 * 2 + 1, none⟩) hb (fun h => h)).trans (hc _ hmid).2
      have HK := Lib.hid (at1_any xs[(lo + hi) / 2] key wr)
      clear hc
      go_wp2_with fail
      refine HK.out.mono ?_
      rintro e w1 ⟨rfl, h1⟩
      have F1 : Hid (Fr Nix w w1) := H.out.1.trans h1
      clear c0 c1 h1
      have hd := cmp_lt xs[(lo + hi) / 2].k key
      cases hq : ltB xs[(lo + hi) / 2].k key with
      | true =>
        have HQ := Lib.hid hq
        rw [hq] at hd
        clear hq
        go_wp2
        go_roundg (hi - ((lo + hi) / 2 + 1))
        case measure => omega
        case rel =>
          refine ⟨(lo + hi) / 2 + 1, hi, by omega, hhi, Nat.le_refl _, by go_num, rfl, F1.out, fun j h hj => ?_, H.out.2.2⟩
          by_cases e : j = (lo + hi) / 2
          · subst e; exact HQ.out
          · exact ltB_trans (rising_at HS.out (by omega) hmid) HQ.out
      | false =>
        have HQ := Lib.hid hq
        rw [hq] at hd
        clear hq
        go_wp2
        go_roundg ((lo + hi) / 2 - lo)
        case measure => omega
        case rel =>
          refine ⟨lo, (lo + hi) / 2, by omega, by omega, Nat.le_refl _, rfl, by go_num, F1.out, H.out.2.1, fun j h hj => ?_⟩
          by_cases e : j = (lo + hi) / 2
          · subst e; exact HQ.out
          · exact lt_of_lt_not (rising_at HS.out (by omega) h) HQ.out
    · obtain rfl : hi = lo := by omega
      have hp : Hid (posR key xs = hi) := posR_eq key xs hi hhi H.out.2.1 H.out.2.2
      by_cases hin : hi < xs.length
      · rcases HR.out with h0 | ⟨b, off, rfl, hb, hc⟩
        · rw [h0] at hin; cases hin
        have c0 := (H.out.1.cell (p := ⟨b, off + hi * 2, none⟩) hb (fun h => h)).trans (hc _ hin).1
        have c1 := (H.out.1.cell (p := ⟨b, off + hi * 2 + 1, none⟩) hb (fun h => h)).trans (hc _ hin).2
        have HK := Lib.hid (at1_any xs[hi] key wr)
        clear hc
        go_wp2_with fail
        refine HK.out.mono ?_
        rintro e w1 ⟨rfl, h1⟩
        have F1 : Hid (Fr Nix w w1) := H.out.1.trans h1
        clear c0 c1 h1
        go_wp2
        go_ret2
        refine ⟨?_, F1.out⟩
        have hh : hitR key xs = (cmpB xs[hi].k key == 0) := by
          rw [hitR, hp.out, List.getElem?_eq_getElem hin, Bool.eq_iff_iff]
          simp [cmp_eq]
        rw [hh, hp.out]
        rfl
      · go_wp2
        go_ret2
        refine ⟨?_, H.out.1⟩
        have hh : hitR key xs = false := by
          rw [hitR, hp.out, List.getElem?_eq_none (by omega)]
        rw [hh, hp.out]
        rfl

set_option maxHeartbeats 1000000 in
/-- Where a key stands in the rows that lie at a pointer's head. -/
theorem at_any (w : World) (b : Nat) (v : Value) (xs : List Rw) (key : ByteArray) (hc : w.cell? ⟨b, 0, none⟩ = some v) (hr : RdR w v xs) (hs : Rising xs) (hB : xs.length ≤ 4398046511104) :
    Calls Tryz.prog 31 #[.pointer (some ⟨b, 0, none⟩), .string key] w fun e w' =>
      e = .returned (.tuple #[.int .i64 (posR key xs : Nat), .bool (hitR key xs)]) ∧ Fr Nix w w' := by
  have HK := Lib.hid (bsearch_any w v xs key hr hs hB)
  obtain ⟨hm, A, cap, rfl, hr⟩ := hr
  clear hr hs
  go_enter Tryz.func31, Tryz.ntmps31
  go_wp2_with fail
  refine HK.out.mono ?_
  rintro e w1 ⟨rfl, h1⟩
  go_wp2
  go_ret2
  exact ⟨rfl, h1⟩
end Go.Proofs.YtnilbpofmohfhaaGreat
