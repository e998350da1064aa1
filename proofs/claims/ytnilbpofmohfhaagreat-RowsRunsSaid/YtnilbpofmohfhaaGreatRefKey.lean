/- The document's Key, Right of a row. -/
import Derived.Test.YtnilbpofmohfhaaGreatRowsA
namespace Go.Proofs.YtnilbpofmohfhaaGreat
open Go.RowKit

set_option maxHeartbeats 1000000 in
theorem refKey_any (s : ByteArray) (w : World) : Calls Tryz.prog 95 #[.string s] w fun e w' => e = .returned (.bool (keyB s)) ∧ w = w' := by
  rcases Nat.eq_zero_or_pos s.size with h0 | h0
  · have k0 : keyB s = false := by simp [keyB, h0]
    rw [k0]
    clear k0
    go_enter Tryz.func95, Tryz.ntmps95
    go_wp2
    go_ret
    exact ⟨rfl, rfl⟩
  by_cases h20 : 20 < s.size
  · have k0 : keyB s = false := by simp [keyB, show ¬ s.size ≤ 20 by omega]
    rw [k0]
    clear k0
    go_enter Tryz.func95, Tryz.ntmps95
    go_wp2
    go_ret
    exact ⟨rfl, rfl⟩
  have hK : Hid (keyB s = s.data.toList.all kch) := by
    show keyB s = _
    simp [keyB, show 1 ≤ s.size from h0, show s.size ≤ 20 by omega]
  go_enter Tryz.func95, Tryz.ntmps95
  go_wp2
  go_loop [3] (fun i => ∃ k : Nat, k ≤ s.size ∧ i = .int .i64 k ∧ Hid ((s.data.toList.take k).all kch = true)) (fun i => s.size - (intOf i).toNat)
  case atStart => exact ⟨0, Nat.zero_le _, rfl, by show _ = true; simp⟩
  case round =>
    obtain ⟨k, hk, rfl, H⟩ := hrel
    by_cases hlt : k < s.size
    · have kc : Hid (kch s[k] = _) := kch_iff s[k]
      have kn : Hid (_ = kch s[k]) := key_snoc s k hlt H
      go_wp2
      all_goals first
        | (go_ret
           have hf : kch s[k] = false := by
             rw [kc.out]
             simp only [Bool.not_eq_true', decide_eq_false_iff_not, Bool.not_eq_false', decide_eq_true_eq] at *
             omega
           exact ⟨by rw [hK.out, key_bad s k hlt hf]; rfl, rfl⟩)
        | (go_round
           case rel =>
             have ht : kch s[k] = true := by
               rw [kc.out]
               simp only [Bool.not_eq_true', decide_eq_false_iff_not, Bool.not_eq_false', decide_eq_true_eq] at *
               omega
             exact ⟨k + 1, by omega, by go_num, by show _ = true; rw [kn.out, ht]⟩
           case measure => simp [intOf]; omega)
    · go_wp2
      go_ret
      have hks : k = s.size := by omega
      refine ⟨?_, rfl⟩
      have H' := H.out
      rw [hks, List.take_of_length_le (by simp)] at H'
      rw [hK.out, H']
      rfl

theorem refRowRight_any (x : Rw) (w : World) : Calls Tryz.prog 47 #[x.val] w fun e w' => e = .returned (.bool (rwB x)) ∧ Fr Nix w w' := by
  obtain ⟨k, v⟩ := x
  unfold Rw.val
  go_enter Tryz.func47, Tryz.ntmps47
  go_wp2_with (go_at_call 95; refine (refKey_any _ _).mono ?_; rintro e w' ⟨rfl, rfl⟩)
  all_goals
    go_ret
    refine ⟨ret_bool ?_, (Fr.refl _ _).alloc _⟩
    (simp [rwB, *]; try omega)
end Go.Proofs.YtnilbpofmohfhaaGreat
