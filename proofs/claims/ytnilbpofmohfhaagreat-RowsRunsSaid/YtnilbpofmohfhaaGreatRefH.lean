/- The document's spans: Right, Has tell what the program's tell. -/
import Derived.Test.YtnilbpofmohfhaaGreatRefKey
namespace Go.Proofs.YtnilbpofmohfhaaGreat
open Go.RowKit

/-- Has, as the document and the program say it. -/
def hasS (lo hi k : ByteArray) : Bool := rightB lo hi && keyB k && !(ltB k lo) && (noneB hi || ltB k hi)
theorem leq_iff (a b : ByteArray) : (Op.bytesLess a.toList b.toList || a.toList == b.toList) = !ltB b a := by
  rw [less_iff]
  have h : (a.toList == b.toList) = decide (a = b) := by
    rw [Bool.eq_iff_iff]
    simp only [beq_iff_eq, decide_eq_true_eq]
    constructor
    · intro e
      rw [Lib.toList_data, Lib.toList_data] at e
      cases a; cases b
      simp_all [Array.toList_inj]
    · rintro rfl; rfl
  rw [h]
  cases h1 : ltB a b with
  | true => rw [ltB_asymm h1]; rfl
  | false =>
    cases h2 : ltB b a with
    | true =>
      have : a ≠ b := fun e => by rw [e, ltB_irrefl] at h2; cases h2
      simp [this]
    | false =>
      have := ltB_antisymm h1 h2
      simp [this]

set_option maxHeartbeats 2000000 in
theorem refRight_any (lo hi : ByteArray) (w : World) : Calls Tryz.prog 99 #[.agg #[.string lo, .string hi]] w fun e w' => e = .returned (.bool (rightB lo hi)) ∧ Fr Nix w w' := by
  have e1 := empty_iff lo
  have e2 := empty_iff hi
  have e3 := less_iff lo hi
  cases hn : noneB lo <;> cases hk : keyB lo <;> cases hm : noneB hi <;> cases hl : keyB hi <;> rw [hn] at e1 <;> rw [hm] at e2
  all_goals
    have HN := Lib.hid hn
    have HM := Lib.hid hm
    have HK' := Lib.hid hk
    have HL' := Lib.hid hl
    clear hn hk hm hl
    go_enter Tryz.func99, Tryz.ntmps99
    go_wp2_with (go_at_call 95; refine (refKey_any _ _).mono ?_; rintro e w' ⟨rfl, rfl⟩; first | rw [HK'.out] | rw [HL'.out])
    all_goals
      go_ret
      refine ⟨ret_bool (by simp [rightB, HN.out, HM.out, HK'.out, HL'.out]), (Fr.refl _ _).alloc _⟩

set_option maxHeartbeats 2000000 in
theorem refHas_any (lo hi k : ByteArray) (w : World) : Calls Tryz.prog 51 #[.agg #[.string lo, .string hi], .string k] w fun e w' => e = .returned (.bool (hasS lo hi k)) ∧ Fr Nix w w' := by
  have e2 := empty_iff hi
  have e3 := less_iff k hi
  have e4 := leq_iff lo k
  go_enter Tryz.func51, Tryz.ntmps51
  go_wp2_with fail
  refine (refRight_any _ _ _).mono ?_
  rintro e w1 ⟨rfl, h1⟩
  have hz := ups (show w.heap.size < w1.heap.size by have := h1.size; rw [World.size_alloc] at this; omega)
  have c0 : w1.cell? ⟨w.heap.size, 0, none⟩ = some (.string lo) := h1.cell' (by go_simp)
  have c1 : w1.cell? ⟨w.heap.size, 1, none⟩ = some (.string hi) := h1.cell' (by go_simp)
  have F1 : Hid (Fr Nix w w1) := ((Fr.refl _ _).alloc _).nix h1
  clear h1
  cases hr : rightB lo hi with
  | false =>
    have HR := Lib.hid hr
    clear hr
    go_wp2_with fail
    go_ret
    exact ⟨ret_bool (by simp [hasS, HR.out]), F1.out⟩
  | true =>
    have HR := Lib.hid hr
    clear hr
    go_wp2_with fail
    refine (refKey_any _ _).mono ?_
    rintro e w2 ⟨rfl, rfl⟩
    cases hk : keyB k with
    | false =>
      have HK := Lib.hid hk
      clear hk
      go_wp2_with fail
      go_ret
      exact ⟨ret_bool (by simp [hasS, HK.out]), F1.out⟩
    | true =>
      have HK := Lib.hid hk
      clear hk
      cases h5 : ltB k lo <;> cases h6 : noneB hi <;> cases h7 : ltB k hi <;> rw [h5] at e4 <;> rw [h6] at e2 <;> rw [h7] at e3
      all_goals
        have H5 := Lib.hid h5
        have H6 := Lib.hid h6
        have H7 := Lib.hid h7
        clear h5 h6 h7
        go_wp2_with fail
        go_ret
        exact ⟨ret_bool (by simp [hasS, HR.out, HK.out, H5.out, H6.out, H7.out]), F1.out⟩
end Go.Proofs.YtnilbpofmohfhaaGreat
