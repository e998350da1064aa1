/- Span: what keys and spans are, as plain functions, and that the program's Key, compare, Right, Has, All tell just that. -/
import Derived.Test.YtpggnelngfpfgaaProg
import Derived.Test.YtpggnelngfpfgaaWk
import Derived.WalkLawsBesides
import Derived.Deep.QuietTactic
import Derived.BigQuiet
import Derived.Lib.Bytealg
import Derived.Lib.Hide
import Derived.Deep.LoopGhost
namespace Go.Proofs.Ytpggnelngfpfgaa
open Go.RowKit

def kch (c : UInt8) : Bool := (97 ≤ c && c ≤ 122) || (48 ≤ c && c ≤ 57)
def keyB (s : ByteArray) : Bool := decide (1 ≤ s.size) && decide (s.size ≤ 20) && s.data.toList.all kch
def noneB (s : ByteArray) : Bool := decide (s.size = 0)
def ltB (a b : ByteArray) : Bool := decide (a.data.toList < b.data.toList)

theorem kch_iff (c : UInt8) : kch c = decide ((97 ≤ (c.toNat : Int) ∧ (c.toNat : Int) ≤ 122) ∨ (48 ≤ (c.toNat : Int) ∧ (c.toNat : Int) ≤ 57)) := by
  unfold kch
  rw [Bool.eq_iff_iff]
  simp [UInt8.le_iff_toNat_le]
  omega
theorem key_snoc (s : ByteArray) (k : Nat) (h : k < s.size) (H : (s.data.toList.take k).all kch = true) : (s.data.toList.take (k + 1)).all kch = kch s[k] := by
  rw [List.take_succ_eq_append_getElem (by simpa using h), List.all_append, H]
  simp
  rfl
theorem key_bad (s : ByteArray) (k : Nat) (h : k < s.size) (H : kch s[k] = false) : s.data.toList.all kch = false := by
  rw [List.all_eq_false]
  exact ⟨s[k], by exact List.getElem_mem (by simpa using h), by simp [H]⟩

theorem empty_iff (a : ByteArray) : a.toList.isEmpty = noneB a := by
  rw [Lib.toList_data, noneB, Bool.eq_iff_iff, List.isEmpty_iff, ← List.length_eq_zero_iff, decide_eq_true_iff, Array.length_toList]
  rfl
theorem noneB_of_pos {a : ByteArray} (h : 0 < a.size) : noneB a = false := decide_eq_false (by omega)
theorem noneB_of_zero {a : ByteArray} (h : a.size = 0) : noneB a = true := by simp [noneB, h]
set_option maxHeartbeats 1000000 in
theorem key_any (s : ByteArray) (w : World) : Calls Try.prog 18 #[.string s] w fun e w' => e = .returned (.bool (keyB s)) ∧ w = w' := by
  rcases Nat.eq_zero_or_pos s.size with h0 | h0
  · have e0 : s.toList = [] := by rw [Lib.toList_data]; exact List.eq_nil_of_length_eq_zero (by simpa using h0)
    have k0 : keyB s = false := by simp [keyB, h0]
    rw [k0]
    clear k0
    go_enter Try.func18, Try.ntmps18
    go_wp2
    go_ret
    exact ⟨rfl, rfl⟩
  have e2 : s.toList.isEmpty = false := by rw [empty_iff]; exact noneB_of_pos h0
  have e1 : s.toList ≠ [] := by intro h; rw [h] at e2; cases e2
  by_cases h20 : 20 < s.size
  · have k0 : keyB s = false := by simp [keyB, show ¬ s.size ≤ 20 by omega]
    rw [k0]
    clear k0
    go_enter Try.func18, Try.ntmps18
    go_wp2
    go_ret
    exact ⟨rfl, rfl⟩
  have hK : Hid (keyB s = s.data.toList.all kch) := by
    show keyB s = _
    simp [keyB, show 1 ≤ s.size from h0, show s.size ≤ 20 by omega]
  go_enter Try.func18, Try.ntmps18
  go_wp2
  go_loop [14] (fun i => ∃ k : Nat, k ≤ s.size ∧ i = .int .i64 k ∧ Hid ((s.data.toList.take k).all kch = true)) (fun i => s.size - (intOf i).toNat)
  case atStart => exact ⟨0, Nat.zero_le _, rfl, by show _ = true; simp⟩
  case round =>
    obtain ⟨k, hk, rfl, H⟩ := hrel
    by_cases hlt : k < s.size
    · have kc : Hid (kch s[k] = _) := kch_iff s[k]
      have kn : Hid (_ = kch s[k]) := key_snoc s k hlt H
      go_wp2
      all_goals first
        | (go_ret
           have hf : kch s[k] = false := by
             rw [kc.out]
             simp only [Bool.not_eq_true', decide_eq_false_iff_not, Bool.not_eq_false', decide_eq_true_eq] at *
             omega
           exact ⟨by rw [hK.out, key_bad s k hlt hf]; rfl, rfl⟩)
        | (go_round
           case rel =>
             have ht : kch s[k] = true := by
               rw [kc.out]
               simp only [Bool.not_eq_true', decide_eq_false_iff_not, Bool.not_eq_false', decide_eq_true_eq] at *
               omega
             exact ⟨k + 1, by omega, by go_num, by show _ = true; rw [kn.out, ht]⟩
           case measure => simp [intOf]; omega)
    · go_wp2
      go_ret
      have hks : k = s.size := by omega
      refine ⟨?_, rfl⟩
      have H' := H.out
      rw [hks, List.take_of_length_le (by simp)] at H'
      rw [hK.out, H']
      rfl

theorem bytesLess_iff : ∀ (x y : List UInt8), Op.bytesLess x y = decide (x < y)
  | [], [] => by simp [Op.bytesLess]
  | _ :: _, [] => by simp [Op.bytesLess]
  | [], _ :: _ => by simp [Op.bytesLess]
  | a :: x, b :: y => by
    rw [Op.bytesLess, bytesLess_iff x y]
    simp only [List.cons_lt_cons_iff]
    by_cases h1 : a < b <;> by_cases h2 : a = b <;> by_cases h3 : x < y <;> simp [h1, h2, h3]
theorem less_iff (a b : ByteArray) : Op.bytesLess a.toList b.toList = ltB a b := by
  rw [bytesLess_iff, Lib.toList_data, Lib.toList_data]; rfl
/-- -1, 0 or 1. -/
def cmpB (a b : ByteArray) : Int := if ltB a b then -1 else if ltB b a then 1 else 0
theorem ret_bool {a b : Bool} (h : a = b) : Ending.returned (.bool a) = Ending.returned (.bool b) := by rw [h]
theorem ret_int {k : IntKind} {a b : Int} (h : a = b) : Ending.returned (.int k a) = Ending.returned (.int k b) := by rw [h]
theorem ltB_irrefl (a : ByteArray) : ltB a a = false := by simp [ltB]
theorem ltB_trans {a b c : ByteArray} (h : ltB a b = true) (k : ltB b c = true) : ltB a c = true := by
  simp only [ltB, decide_eq_true_eq] at *; exact List.lt_trans h k
theorem ltB_antisymm {a b : ByteArray} (h : ltB a b = false) (k : ltB b a = false) : a = b := by
  simp only [ltB, decide_eq_false_iff_not] at *
  have : a.data.toList = b.data.toList := List.le_antisymm (List.not_lt.1 k) (List.not_lt.1 h)
  cases a; cases b; simp_all [Array.toList_inj]
theorem ltB_asymm {a b : ByteArray} (h : ltB a b = true) : ltB b a = false := by
  cases hb : ltB b a with
  | false => rfl
  | true => have := ltB_trans h hb; rw [ltB_irrefl] at this; cases this

theorem cmp_pos (a b : ByteArray) : decide (0 < cmpB a b) = ltB b a := by
  unfold cmpB
  cases h1 : ltB a b with
  | true => rw [ltB_asymm h1]; rfl
  | false => cases h2 : ltB b a <;> rfl
theorem cmp_le (a b : ByteArray) : decide (cmpB a b ≤ 0) = !ltB b a := by
  rw [← cmp_pos, Bool.eq_iff_iff]; simp
theorem cmp_lt (a b : ByteArray) : decide (cmpB a b < 0) = ltB a b := by
  unfold cmpB
  cases h1 : ltB a b with
  | true => rfl
  | false => cases h2 : ltB b a <;> rfl
theorem cmp_le_iff (a b : ByteArray) : cmpB a b ≤ 0 ↔ ltB b a = false := by have := cmp_le a b; rw [Bool.eq_iff_iff] at this; simpa using this
theorem cmp_pos_iff (a b : ByteArray) : 0 < cmpB a b ↔ ltB b a = true := by have := cmp_pos a b; rw [Bool.eq_iff_iff] at this; simpa using this
theorem cmp_eq (a b : ByteArray) : (cmpB a b = 0) ↔ a = b := by
  unfold cmpB
  cases h1 : ltB a b with
  | true => simp; rintro rfl; rw [ltB_irrefl] at h1; cases h1
  | false =>
    cases h2 : ltB b a with
    | true => simp; rintro rfl; rw [ltB_irrefl] at h2; cases h2
    | false => simp; exact ltB_antisymm h1 h2
set_option maxHeartbeats 1000000 in
theorem cmp_any (a b : ByteArray) (w : World) : Calls Try.prog 77 #[.string a, .string b] w fun e w' => e = .returned (.int .i64 (cmpB a b)) ∧ w = w' := by
  have l1 := less_iff a b
  have l2 := less_iff b a
  cases h1 : ltB a b with
  | true =>
    rw [h1] at l1
    have H : Hid (cmpB a b = -1) := by show _ = _; simp [cmpB, h1]
    go_enter Try.func77, Try.ntmps77
    go_wp2
    go_ret
    exact ⟨by rw [H.out]; rfl, rfl⟩
  | false =>
    cases h2 : ltB b a with
    | true =>
      rw [h1] at l1; rw [h2] at l2
      have ne : Hid (¬ a.toList = b.toList) := by
        intro e
        rw [Lib.toList_data, Lib.toList_data] at e
        simp only [ltB, decide_eq_true_eq] at h2
        rw [e] at h2
        exact List.lt_irrefl _ h2
      have H : Hid (cmpB a b = 1) := by show _ = _; simp [cmpB, h1, h2]
      have ne' : (a.toList == b.toList) = false := by simpa using ne.out
      go_enter Try.func77, Try.ntmps77
      go_wp2
      go_ret
      exact ⟨by rw [H.out]; rfl, rfl⟩
    | false =>
      obtain rfl := ltB_antisymm h1 h2
      rw [h1] at l1
      have H : Hid (cmpB a a = 0) := by show _ = _; simp [cmpB, h1]
      go_enter Try.func77, Try.ntmps77
      go_wp2
      go_ret
      exact ⟨by rw [H.out]; rfl, rfl⟩

def rightB (lo hi : ByteArray) : Bool := (noneB lo || keyB lo) && (noneB hi || (keyB hi && ltB lo hi))
set_option maxHeartbeats 1000000 in
theorem ends_any (a b : ByteArray) (w : World) : Calls Try.prog 45 #[.agg #[.string a, .string b]] w fun e w' => e = .returned (.tuple #[.agg #[.string a], .agg #[.string b]]) ∧ Fr Nix w w' := by
  go_enter Try.func45, Try.ntmps45
  go_wp2
  go_region
  go_wp2
  refine bodyPost_ret (v := .tuple #[.agg #[.string a], .agg #[.string b]]) (by simp [results, Try.results45, go_sem]) rfl ⟨rfl, ?_⟩
  exact ((((Fr.refl _ _).alloc _).alloc _).alloc _).drew

theorem Fr.look {w w' : World} (h : Fr Nix w w') : ∀ b o v, w.cell? ⟨b, o, none⟩ = some v → w'.cell? ⟨b, o, none⟩ = some v := fun _ _ _ hc => h.cell' hc
set_option maxHeartbeats 2000000 in
theorem right_any (lo hi : ByteArray) (w : World) : Calls Try.prog 34 #[.agg #[.string lo, .string hi]] w fun e w' => e = .returned (.bool (rightB lo hi)) ∧ Fr Nix w w' := by
  have e1 := empty_iff lo
  have e2 := empty_iff hi
  go_enter Try.func34, Try.ntmps34
  go_wp2_with fail
  refine (ends_any _ _ _).mono ?_
  rintro e w1 ⟨rfl, h1⟩
  have hz := ups (show w.heap.size < w1.heap.size by have := h1.size; rw [World.size_alloc] at this; omega)
  have c0 : w1.cell? ⟨w.heap.size, 0, none⟩ = some (.string lo) := h1.cell' (by go_simp)
  have c1 : w1.cell? ⟨w.heap.size, 1, none⟩ = some (.string hi) := h1.cell' (by go_simp)
  go_wp2_with (first | (go_at_call 18; refine (key_any _ _).mono ?_; rintro e w' ⟨rfl, rfl⟩) | (go_at_call 77; refine (cmp_any _ _ _).mono ?_; rintro e w' ⟨rfl, rfl⟩) | go_in)
  all_goals
    go_ret
    refine ⟨ret_bool (by simp [rightB, cmp_pos, *]), ?_⟩
    repeat refine Fr.alloc ?_ _
    exact ((Fr.refl _ _).alloc _).nix h1

end Go.Proofs.Ytpggnelngfpfgaa
