/- The statements' kit over shares: '==' of spans and shares, SameShares, SharesOf. -/
import Derived.Test.YtpggnelngfpfgaaShA
import Derived.Test.YtpggnelngfpfgaaOpenS
namespace Go.Proofs.Ytpggnelngfpfgaa
open Go.RowKit

theorem eqSpan (d : Nat) (w : World) (x0 x1 y0 y1 : ByteArray) :
    (Op.equalIn (d + 2) 29 (.agg #[.string x0, .string x1]) (.agg #[.string y0, .string y1])).run Try.prog w = .ok (x0.toList == y0.toList && x1.toList == y1.toList) w := by
  refine eqA_of Try.underlying29 (by kernel_rfl) ?_
  refine eqf_cons (by rfl) (by go_simp; rfl) (by go_simp; rfl) (by go_simp) ?_
  exact eqf_last (by rfl) (by go_simp; rfl) (by go_simp; rfl) (by go_simp)
@[go_sem high] theorem neqSpan (w : World) (x0 x1 y0 y1 : ByteArray) :
    (binOp .neq 29 (.agg #[.string x0, .string x1]) (.agg #[.string y0, .string y1])).run Try.prog w = .ok (.bool (!(decide (x0 = y0) && decide (x1 = y1)))) w := by
  rw [run_neq_struct, eqSpan 9998, toList_inj, toList_inj]
  rfl
@[go_sem high] theorem eqlSpan (w : World) (x0 x1 y0 y1 : ByteArray) :
    (binOp .eql 29 (.agg #[.string x0, .string x1]) (.agg #[.string y0, .string y1])).run Try.prog w = .ok (.bool (decide (x0 = y0) && decide (x1 = y1))) w := by
  rw [run_eql_struct, eqSpan 9998, toList_inj, toList_inj]
  rfl
theorem eqShare (d : Nat) (w : World) (x0 x1 y0 y1 : ByteArray) (x2 x3 y2 y3 : Int) :
    (Op.equalIn (d + 3) 41 (.agg #[.string x0, .string x1, .int .i64 x2, .int .i64 x3]) (.agg #[.string y0, .string y1, .int .i64 y2, .int .i64 y3])).run Try.prog w = .ok ((x0.toList == y0.toList && x1.toList == y1.toList) && (decide (x2 = y2) && decide (x3 = y3))) w := by
  refine eqA_of Try.underlying41 (by kernel_rfl) ?_
  refine eqf_cons (by rfl) (by first | (go_simp; done) | (go_simp; rfl)) (by first | (go_simp; done) | (go_simp; rfl)) (eqSpan d w x0 x1 y0 y1) ?_
  refine eqf_cons (by rfl) (by go_simp; rfl) (by go_simp; rfl) (by first | (go_simp; done) | (go_simp; rfl)) ?_
  exact eqf_last (by rfl) (by go_simp; rfl) (by go_simp; rfl) (by first | (go_simp; done) | (go_simp; rfl))
@[go_sem high] theorem neqShare (w : World) (x0 x1 y0 y1 : ByteArray) (x2 x3 y2 y3 : Int) :
    (binOp .neq 41 (.agg #[.string x0, .string x1, .int .i64 x2, .int .i64 x3]) (.agg #[.string y0, .string y1, .int .i64 y2, .int .i64 y3])).run Try.prog w = .ok (.bool (!eqSh ⟨x0, x1, x2, x3⟩ ⟨y0, y1, y2, y3⟩)) w := by
  rw [run_neq_struct, eqShare 9997, toList_inj, toList_inj]
  rfl
@[go_sem high] theorem eqlShare (w : World) (x0 x1 y0 y1 : ByteArray) (x2 x3 y2 y3 : Int) :
    (binOp .eql 41 (.agg #[.string x0, .string x1, .int .i64 x2, .int .i64 x3]) (.agg #[.string y0, .string y1, .int .i64 y2, .int .i64 y3])).run Try.prog w = .ok (.bool (eqSh ⟨x0, x1, x2, x3⟩ ⟨y0, y1, y2, y3⟩)) w := by
  rw [run_eql_struct, eqShare 9997, toList_inj, toList_inj]
  rfl
def sameSh : List Shr → List Shr → Bool
  | [], [] => true
  | a :: x, b :: y => eqSh a b && sameSh x y
  | _, _ => false
theorem sameSh_iff : ∀ x y, sameSh x y = true ↔ x = y
  | [], [] => by simp [sameSh]
  | a :: x, b :: y => by simp [sameSh, eqSh_iff, sameSh_iff x y]
  | [], b :: y => by simp [sameSh]
  | a :: x, [] => by simp [sameSh]

set_option maxRecDepth 100000 in
set_option maxHeartbeats 4000000 in
theorem sameShareRows_any (w : World) (v u : Value) (xs ys : List Shr) (hx : RdSh w v xs) (hy : RdSh w u ys) :
    Calls Try.prog 42 #[v, u] w fun e w' => e = .returned (.bool (sameSh xs ys)) ∧ Fr Nix w w' := by
  obtain ⟨hm, A, cap, rfl, hx⟩ := hx
  obtain ⟨hm', A', cap', rfl, hy⟩ := hy
  have HX := Lib.hid hx
  have HY := Lib.hid hy
  clear hx hy
  by_cases hl : xs.length = ys.length
  · go_enter Try.func42, Try.ntmps42
    have HL := Lib.hid hl
    go_wp2
    clear hl
    go_loopg [5] xs.length (fun gg s5 wr => ∃ k : Nat, k ≤ xs.length ∧ xs.length - k ≤ gg ∧ s5 = .int .i64 k ∧ Hid (Fr Nix w wr ∧ sameSh xs ys = sameSh (xs.drop k) (ys.drop k)))
    case atStart => exact ⟨0, Nat.zero_le _, by omega, rfl, Fr.refl _ _, by simp⟩
    case round =>
      obtain ⟨k, hk, hg, rfl, H⟩ := hrel
      by_cases hlt : k < xs.length
      · have hlt2 : k < ys.length := by rw [← HL.out]; exact hlt
        rcases HX.out with h0 | ⟨b, off, rfl, hb, hc⟩
        · rw [h0] at hlt; cases hlt
        rcases HY.out with h0 | ⟨b', off', rfl, hb', hc'⟩
        · rw [h0] at hlt2; cases hlt2
        obtain ⟨c0, c1, c2, c3⟩ := sh_cells hc H.out.1 k hlt
        obtain ⟨d0, d1, d2, d3⟩ := sh_cells hc' H.out.1 k hlt2
        clear hc hc'
        go_wp2_with fail
        go_quiet (fail)
        have HE : Hid (sameSh xs ys = (eqSh xs[k] ys[k] && sameSh (xs.drop (k + 1)) (ys.drop (k + 1)))) := by
          show _ = _
          rw [H.out.2, List.drop_eq_getElem_cons hlt, List.drop_eq_getElem_cons hlt2, sameSh]
        generalize xs[k] = y at c0 c1 c2 c3 HE ⊢
        generalize ys[k] = z at d0 d1 d2 d3 HE ⊢
        have hyz : eqSh ⟨y.lo, y.hi, y.g, y.e⟩ ⟨z.lo, z.hi, z.g, z.e⟩ = eqSh y z := rfl
        simp only [hyz]
        cases he : eqSh y z with
        | false =>
          have HF := Lib.hid he
          clear he
          go_wp2
          go_ret
          exact ⟨by rw [HE.out, HF.out]; rfl, H.out.1.drewN _⟩
        | true =>
          have HF := Lib.hid he
          clear he
          go_wp2
          go_roundg (xs.length - (k + 1))
          case measure => omega
          case rel => exact ⟨k + 1, by omega, by omega, by go_num, H.out.1.drewN _, by rw [HE.out, HF.out]; rfl⟩
      · obtain rfl : k = xs.length := by omega
        go_wp2
        go_ret
        exact ⟨by rw [H.out.2, List.drop_length, HL.out, List.drop_length]; rfl, H.out.1⟩
  · go_enter Try.func42, Try.ntmps42
    have hli : ¬ (xs.length : Int) = (ys.length : Int) := by omega
    clear hl
    go_wp2
    go_ret
    have : sameSh xs ys = false := by
      by_cases h : sameSh xs ys = true
      · rw [sameSh_iff] at h
        subst h
        exact absurd rfl hli
      · simpa using h
    exact ⟨by rw [this]; rfl, Fr.refl _ _⟩
theorem sameSh_eq (x y : List Shr) : sameSh x y = decide (x = y) := by
  cases h : sameSh x y with
  | true => rw [(sameSh_iff x y).1 h]; simp
  | false => rw [decide_eq_false]; intro e; rw [(sameSh_iff x y).2 e] at h; cases h
set_option maxRecDepth 100000 in
set_option maxHeartbeats 1000000 in
theorem sameShares_any (w : World) (e1 e2 : Int) (v u : Value) (xs ys : List Shr) (hx : RdSh w v xs) (hy : RdSh w u ys) :
    Calls Try.prog 13 #[.agg #[.int .i64 e1, v], .agg #[.int .i64 e2, u]] w fun e w' => e = .returned (.bool (decide (e1 = e2 ∧ xs = ys))) ∧ Fr Nix w w' := by
  have HC := fun W (h : Fr Nix w W) => Lib.hid (sameShareRows_any W v u xs ys (hx.nix h) (hy.nix h))
  obtain ⟨A, c, rfl⟩ := hx.form
  obtain ⟨A', c', rfl⟩ := hy.form
  clear hx hy
  by_cases h : e1 = e2
  · subst h
    have hd : Hid (decide (e1 = e1 ∧ xs = ys) = sameSh xs ys) := by show _ = _; rw [sameSh_eq]; simp only [true_and]
    go_enter Try.func13, Try.ntmps13
    go_wp2_with fail
    refine (HC _ (((Fr.refl _ _).alloc _).alloc _)).out.mono ?_
    rintro e w1 ⟨rfl, h1⟩
    go_wp2_with fail
    go_ret
    exact ⟨ret_bool hd.out.symm, (((Fr.refl _ _).alloc _).alloc _).nix h1⟩
  · have hd : Hid (decide (e1 = e2 ∧ xs = ys) = false) := by show _ = _; simp [h]
    go_enter Try.func13, Try.ntmps13
    go_wp2_with fail
    go_ret
    exact ⟨by rw [hd.out]; rfl, by first | exact Fr.refl _ _ | exact ((Fr.refl _ _).alloc _).alloc _⟩
end Go.Proofs.Ytpggnelngfpfgaa
