/- The wire's reader: Number, Row, Text. -/
import Derived.Test.YtnilbpofmohfhaaGreatReadA
import Derived.Laws.BytesArg
namespace Go.Proofs.YtnilbpofmohfhaaGreat
open Go.RowKit

/-- A number read from its bytes, seven bits each: acc so far, i bytes read. -/
def getV (acc i : Nat) : List UInt8 → Option (Nat × List UInt8)
  | [] => none
  | x :: r => if 9 ≤ i then none else if x.toNat < 128 then (if (0 < i ∧ x.toNat = 0) ∨ 4611686018427387903 < acc + x.toNat % 128 * 128 ^ i then none else some (acc + x.toNat % 128 * 128 ^ i, r)) else getV (acc + x.toNat % 128 * 128 ^ i) (i + 1) r
def numM (most : Nat) : Option (Nat × List UInt8) → Nat × Bool × List UInt8
  | none => (0, true, [])
  | some (n, r) => if most < n then (0, true, []) else (n, false, r)
/-- What Number tells, whether the reader is bad then, and what is left. -/
def numR (most : Nat) (bad : Bool) (rest : List UInt8) : Nat × Bool × List UInt8 := if bad then (0, true, rest) else numM most (getV 0 0 rest)
theorem wraps_i64' (n : Int) (h₀ : 0 ≤ n) (h₁ : n < 2 ^ 63) : IntKind.i64.wrap n = n := by rw [IntKind.wrap_i64]; omega
theorem and127u (x : UInt8) : bits BinOp.and IntKind.u8 (x.toNat : Int) 127 = ((x.toNat % 128 : Nat) : Int) := by
  have h1 := bits_mask .u8 8 (by decide) wraps_u8 7 (by decide) (x.toNat : Int) (by omega) (by have := x.toNat_lt; omega)
  rw [show ((127 : Int) = 2 ^ 7 - 1) by decide, h1]
  omega
theorem or_join (acc m i : Nat) (h : acc < 128 ^ i) (hm : m < 128) (hi : i ≤ 8) : bits BinOp.or IntKind.i64 (acc : Int) (wrap64 ((m : Int) * 2 ^ (7 * i))) = ((acc + m * 128 ^ i : Nat) : Int) := by
  have p : 128 ^ i = 2 ^ (7 * i) := by rw [Nat.pow_mul]
  have hp : 2 ^ (7 * i) ≤ 2 ^ 56 := Nat.pow_le_pow_right (by decide) (by omega)
  have h56 : (2 : Nat) ^ 56 = 72057594037927936 := by decide
  have hle : m * 2 ^ (7 * i) ≤ 127 * 72057594037927936 := by rw [← h56]; exact Nat.mul_le_mul (by omega) hp
  have hw : wrap64 ((m : Int) * 2 ^ (7 * i)) = ((m * 2 ^ (7 * i) : Nat) : Int) := by
    have e : ((m : Int) * 2 ^ (7 * i)) = ((m * 2 ^ (7 * i) : Nat) : Int) := by push_cast; rfl
    rw [e]
    exact IntWalk.wrap64_in ((m * 2 ^ (7 * i) : Nat) : Int) (by omega)
  rw [hw, (bits_nat .i64 63 (by decide) wraps_i64' acc (m * 2 ^ (7 * i)) (by omega) (by omega)).2, p, Nat.or_comm, Nat.mul_comm m, ← Nat.two_pow_add_eq_or_of_lt (show acc < 2 ^ (7 * i) by rw [← p]; exact h) m, Nat.add_comm]
theorem bad_same {bad : Bool} {xs : List UInt8} {w : World} {b : Nat} (h : IsRd w b bad xs) : w.cell? ⟨b, 1, none⟩ = some (.bool bad) := by
  obtain ⟨v, hb, _⟩ := h
  exact hb.cell 1

set_option maxRecDepth 100000 in
set_option maxHeartbeats 4000000 in
theorem numR_any (w : World) (b : Nat) (bad : Bool) (xs : List UInt8) (most : Nat) (h : IsRd w b bad xs) (hm : most ≤ 4611686018427387903) :
    Calls Tryz.prog 83 #[.pointer (some ⟨b, 0, none⟩), .int .i64 most] w fun e w' => e = .returned (.int .i64 (numR most bad xs).1) ∧ StepR w w' b (numR most bad xs).2.1 (numR most bad xs).2.2 := by
  have H0 := Lib.hid h
  clear h
  cases bad with
  | true =>
    go_enter Tryz.func83, Tryz.ntmps83
    go_wp2_with (go_at_call 91; refine (onR_any w b true xs H0.out).mono ?_; rintro e w' ⟨rfl, rfl⟩)
    go_ret
    exact ⟨rfl, StepR.refl H0.out⟩
  | false =>
    obtain ⟨R, hR⟩ : ∃ R, R = numR most false xs := ⟨_, rfl⟩
    rw [← hR]
    obtain ⟨G, hG⟩ : ∃ G, G = getV 0 0 xs := ⟨_, rfl⟩
    have HR : Hid (R = numM most G) := by rw [hR, hG]; rfl
    have HG := Lib.hid hG
    clear hR hG
    go_enter Tryz.func83, Tryz.ntmps83
    go_wp2_with (go_at_call 91; refine (onR_any w b false xs H0.out).mono ?_; rintro e w' ⟨rfl, rfl⟩)
    go_loopg [5, 6] 9 (fun gg s5 s6 wr => ∃ (i acc : Nat) (rest : List UInt8), i ≤ 9 ∧ 9 - i ≤ gg ∧ acc < 128 ^ i ∧ s5 = .int .i64 (acc : Int) ∧ s6 = .int .i64 ((7 * i : Nat) : Int) ∧ Hid (StepR w wr b false rest ∧ G = getV acc i rest))
    case atStart => exact ⟨0, 0, xs, by omega, by omega, by omega, rfl, rfl, StepR.refl H0.out, HG.out⟩
    case round =>
      obtain ⟨i, acc, rest, hi, hg, hacc, rfl, rfl, H⟩ := hrel
      by_cases hi9 : i < 9
      · have hi63 : ((7 * i : Nat) : Int) < 63 := by omega
        have HT := Lib.hid (takeR_any wr b false rest 1 H.out.1.1 (by decide))
        obtain ⟨s, hs⟩ : ∃ s : Nat, s = 7 * i := ⟨_, rfl⟩
        rw [← hs] at hi63 ⊢
        have HS := Lib.hid hs
        clear hs
        cases rest with
        | nil =>
          go_wp2_with fail
          refine HT.out.mono ?_
          rintro e w1 ⟨v, rfl, h1, h2, h3⟩
          have S1 : Hid (StepR wr w1 b true []) := h3
          have c1 := bad_same S1.out.1
          clear h1 h2 h3 HT
          go_wp2_with fail
          go_ret
          have : G = none := H.out.2
          rw [HR.out, this]
          exact ⟨rfl, H.out.1.trans S1.out⟩
        | cons x r =>
          go_wp2_with fail
          refine HT.out.mono ?_
          rintro e w1 ⟨v, rfl, h1, h2, h3⟩
          have S1 : Hid (StepR wr w1 b false r) := h3
          have c1 := bad_same S1.out.1
          have hrd : RdB w1 v [x] := h1
          obtain ⟨_, A, c, rfl, hr⟩ := hrd
          rcases hr with hr | ⟨bb, off, rfl, hbb, hcc⟩
          · cases hr
          have c0 := hcc 0 (by simp)
          simp only [List.getElem_cons_zero, by8, Nat.add_zero] at c0
          have hA := and127u x
          obtain ⟨m, hm2⟩ : ∃ m : Nat, m = x.toNat % 128 := ⟨_, rfl⟩
          rw [← hm2] at hA
          have HM2 := Lib.hid hm2
          have hm128 : m < 128 := by omega
          clear hm2
          obtain ⟨a, ha⟩ : ∃ a : Nat, a = acc + m * 128 ^ i := ⟨_, rfl⟩
          have hB : bits BinOp.or IntKind.i64 (acc : Int) (wrap64 ((m : Int) * 2 ^ s)) = (a : Int) := by rw [HS.out, ha]; exact or_join acc m i hacc hm128 (by omega)
          have HGV : Hid (G = if x.toNat < 128 then (if (0 < i ∧ x.toNat = 0) ∨ 4611686018427387903 < a then none else some (a, r)) else getV a (i + 1) r) := by
            show _ = _
            rw [H.out.2, getV, if_neg (by omega), ha, HM2.out]
          have HA := Lib.hid ha
          have HF := Lib.hid (failR_any w1 b false r S1.out.1)
          clear h1 h2 h3 HT hcc ha
          have hx := x.toNat_lt
          go_wp2_with fail
          all_goals (try simp only [beq_iff_eq, beq_eq_false_iff_ne, ne_eq] at *)
          all_goals first
            | (refine HF.out.mono ?_
               rintro e w2 ⟨rfl, h1⟩
               have S2 := Lib.hid h1
               clear h1 HF
               go_wp2_with fail
               go_ret
               have hs := HS.out
               have hRR : R = (0, true, []) := by
                 rw [HR.out, HGV.out, if_pos (by omega)]
                 split
                 · rfl
                 · first
                   | (rw [numM, if_pos (by omega)])
                   | (exfalso; omega)
               rw [hRR]
               exact ⟨rfl, (H.out.1.trans S1.out).trans S2.out⟩)
            | (go_ret
               have hs := HS.out
               have hRR : R = (a, false, r) := by
                 rw [HR.out, HGV.out, if_pos (by omega), if_neg (by omega), numM, if_neg (by omega)]
               rw [hRR]
               exact ⟨rfl, H.out.1.trans S1.out⟩)
            | (go_roundg (9 - (i + 1))
               case measure => omega
               case rel =>
                 have hs := HS.out
                 refine ⟨i + 1, a, r, by omega, by omega, ?_, rfl, ?_, H.out.1.trans S1.out, ?_⟩
                 · rw [HA.out, Nat.pow_succ]
                   have := Nat.mul_le_mul_right (128 ^ i) (show m ≤ 127 by omega)
                   omega
                 · congr 1; omega
                 · rw [HGV.out, if_neg (by omega)])
      · obtain rfl : i = 9 := by omega
        have HF := Lib.hid (failR_any wr b false rest H.out.1.1)
        go_wp2_with fail
        refine HF.out.mono ?_
        rintro e w1 ⟨rfl, h1⟩
        have S1 := Lib.hid h1
        clear h1 HF
        go_wp2_with fail
        go_ret
        have : G = none := by
          rw [H.out.2]
          cases rest with
          | nil => rfl
          | cons x r => rw [getV, if_pos (Nat.le_refl _)]
        rw [HR.out, this]
        exact ⟨rfl, H.out.1.trans S1.out⟩

/-- What Row tells, whether the reader is bad then, and what is left. -/
def rowRd (most : Nat) (bad : Bool) (rest : List UInt8) : List UInt8 × Bool × List UInt8 :=
  if (numR most bad rest).2.1 then ([], true, (numR most bad rest).2.2)
  else if (numR most bad rest).1 ≤ (numR most bad rest).2.2.length then ((numR most bad rest).2.2.take (numR most bad rest).1, false, (numR most bad rest).2.2.drop (numR most bad rest).1) else ([], true, [])
theorem getV_le : ∀ (xs : List UInt8) (acc i n : Nat) (r : List UInt8), getV acc i xs = some (n, r) → n ≤ 4611686018427387903 ∧ r.length ≤ xs.length
  | [], acc, i, n, r, h => by cases h
  | x :: xs, acc, i, n, r, h => by
    rw [getV] at h
    split at h
    · cases h
    · split at h
      · split at h
        · cases h
        · cases h
          rename_i h1
          exact ⟨by omega, by simp⟩
      · have := getV_le xs _ _ n r h
        exact ⟨this.1, by simp; omega⟩
theorem numR_le (most : Nat) (bad : Bool) (xs : List UInt8) : (numR most bad xs).1 ≤ 4611686018427387903 ∧ (numR most bad xs).2.2.length ≤ xs.length := by
  unfold numR
  split
  · exact ⟨Nat.zero_le _, Nat.le_refl _⟩
  · cases h : getV 0 0 xs with
    | none => exact ⟨by simp [numM], by simp [numM]⟩
    | some q =>
      obtain ⟨n, r⟩ := q
      have := getV_le xs 0 0 n r h
      rw [numM]
      split
      · simp
      · exact this

set_option maxRecDepth 100000 in
set_option maxHeartbeats 4000000 in
theorem rowR_any (w : World) (b : Nat) (bad : Bool) (xs : List UInt8) (most : Nat) (h : IsRd w b bad xs) (hm : most ≤ 4611686018427387903) (hB : xs.length ≤ 1000000000) :
    Calls Tryz.prog 132 #[.pointer (some ⟨b, 0, none⟩), .int .i64 most] w fun e w' => ∃ v, e = .returned v ∧ OwnB w' v (rowRd most bad xs).1 ∧ New w v ∧ StepR w w' b (rowRd most bad xs).2.1 (rowRd most bad xs).2.2 := by
  have HN := Lib.hid (numR_any w b bad xs most h hm)
  have hle := numR_le most bad xs
  obtain ⟨Q, hQ⟩ : ∃ Q, Q = numR most bad xs := ⟨_, rfl⟩
  have HR : Hid (rowRd most bad xs = if Q.2.1 then ([], true, Q.2.2) else if Q.1 ≤ Q.2.2.length then (Q.2.2.take Q.1, false, Q.2.2.drop Q.1) else ([], true, [])) := by rw [hQ]; rfl
  rw [← hQ] at HN hle
  obtain ⟨RR, hRR⟩ : ∃ R, R = rowRd most bad xs := ⟨_, rfl⟩
  rw [← hRR] at HR ⊢
  clear hQ hRR h
  obtain ⟨n, bd, rest⟩ := Q
  dsimp only at HN hle HR
  have hn := hle.1
  have hrl : rest.length ≤ 1000000000 := by omega
  clear hle
  cases bd with
  | true =>
    have HR2 : Hid (RR = ([], true, rest)) := HR.out
    clear HR
    go_enter Tryz.func132, Tryz.ntmps132
    go_wp2_with fail
    refine HN.out.mono ?_
    rintro e w1 ⟨rfl, h1⟩
    have S1 := Lib.hid h1
    clear h1 HN
    go_wp2_with fail
    refine (onR_any w1 b true rest S1.out.1).mono ?_
    rintro e w2 ⟨rfl, rfl⟩
    go_wp2_with fail
    go_ret
    rw [HR2.out]
    exact ⟨_, rfl, Own1.nil _ _ _, (fun k hk => by cases hk), S1.out⟩
  | false =>
    have HR2 : Hid (RR = if n ≤ rest.length then (rest.take n, false, rest.drop n) else ([], true, [])) := HR.out
    clear HR
    go_enter Tryz.func132, Tryz.ntmps132
    go_wp2_with fail
    refine HN.out.mono ?_
    rintro e w1 ⟨rfl, h1⟩
    have S1 := Lib.hid h1
    clear h1 HN
    go_wp2_with fail
    refine (onR_any w1 b false rest S1.out.1).mono ?_
    rintro e w2 ⟨rfl, rfl⟩
    go_wp2_with fail
    refine (takeR_any w1 b false rest n S1.out.1 hn).mono ?_
    rintro e w2 ⟨v2, rfl, h1, _, h3⟩
    have hRR : RR.1 = (if n ≤ rest.length then rest.take n else []) ∧ StepR w1 w2 b RR.2.1 RR.2.2 := by
      rw [HR2.out]
      by_cases hc : n ≤ rest.length
      · rw [if_pos hc] at h3 ⊢
        rw [if_pos hc]
        exact ⟨rfl, h3⟩
      · rw [if_neg hc] at h3 ⊢
        rw [if_neg hc]
        exact ⟨rfl, h3⟩
    have S2 := Lib.hid hRR.2
    have R1 : Hid (RdB w2 v2 RR.1) := by show RdB _ _ _; rw [hRR.1]; exact h1
    have hl1 : RR.1.length ≤ 1000000000 := by rw [hRR.1]; split <;> simp; omega
    clear h1 h3 hRR
    obtain ⟨A, c, e2⟩ := R1.out.form
    subst e2
    go_wp2_with fail
    refine (cloneB_any w2 _ _ R1.out (by omega)).mono ?_
    rintro e w3 ⟨v3, rfl, h1, h2, h3⟩
    have H1 := Lib.hid h1
    have H2 := Lib.hid h2
    have H3 := Lib.hid h3
    clear h1 h2 h3
    obtain ⟨A3, n3, c3, e3⟩ := H1.out.rd.form'
    subst e3
    go_wp2_with fail
    go_ret
    refine ⟨_, rfl, H1.out, fun k hk => ?_, (S1.out.trans S2.out).nix H3.out⟩
    exact Nat.le_trans (S1.out.trans S2.out).2.1.size (H2.out k hk)

theorem back_any (w : World) (v : Value) (xs : List UInt8) (h : RdB w v xs) : (convert 50 9 v).run Tryz.prog w = .ok (.string ⟨xs.toArray⟩) w := by
  obtain ⟨_, A, c, rfl, h⟩ := h
  rcases h with rfl | ⟨b, off, rfl, hb, hc⟩
  · cases A with
    | none => exact run_convert_bytes_nil w _ _ Tryz.underlying50 Tryz.underlying5 _ _ _ Tryz.underlying9
    | some a => exact run_convert_bytes_back w _ _ _ a c [] Tryz.underlying50 Tryz.underlying5 Tryz.underlying9 (fun j hj => by cases hj)
  · exact run_convert_bytes_back w _ _ _ _ c xs Tryz.underlying50 Tryz.underlying5 Tryz.underlying9 (fun j hj => by rw [addr_add]; exact hc j hj)

set_option maxRecDepth 100000 in
theorem textR_any (w : World) (b : Nat) (bad : Bool) (xs : List UInt8) (most : Nat) (h : IsRd w b bad xs) (hm : most ≤ 4611686018427387903) (hB : xs.length ≤ 1000000000) :
    Calls Tryz.prog 88 #[.pointer (some ⟨b, 0, none⟩), .int .i64 most] w fun e w' => e = .returned (.string ⟨(rowRd most bad xs).1.toArray⟩) ∧ StepR w w' b (rowRd most bad xs).2.1 (rowRd most bad xs).2.2 := by
  have HN := Lib.hid (rowR_any w b bad xs most h hm hB)
  clear h
  generalize rowRd most bad xs = Q at HN
  go_enter Tryz.func88, Tryz.ntmps88
  go_wp2_with fail
  refine HN.out.mono ?_
  rintro e w1 ⟨v1, rfl, h1, _, h3⟩
  have hb := back_any w1 v1 _ h1.rd
  have S1 := Lib.hid h3
  obtain ⟨A, n, c, e1⟩ := h1.rd.form'
  subst e1
  clear h1 h3
  go_wp2_with fail
  go_ret
  exact ⟨rfl, S1.out⟩
end Go.Proofs.YtnilbpofmohfhaaGreat
