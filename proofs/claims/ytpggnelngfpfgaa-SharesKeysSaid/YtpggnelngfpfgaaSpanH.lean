/- Has, All of the spans. -/
import Derived.Test.YtpggnelngfpfgaaSpan
namespace Go.Proofs.Ytpggnelngfpfgaa
open Go.RowKit

def hasB (lo hi k : ByteArray) : Bool := rightB lo hi && keyB k && !(ltB k lo) && (noneB hi || ltB k hi)
set_option maxHeartbeats 4000000 in
theorem has_any (lo hi k : ByteArray) (w : World) : Calls Try.prog 17 #[.agg #[.string lo, .string hi], .string k] w fun e w' => e = .returned (.bool (hasB lo hi k)) ∧ Fr Nix w w' := by
  have e1 := empty_iff hi
  go_enter Try.func17, Try.ntmps17
  go_wp2_with fail
  refine (ends_any _ _ _).mono ?_
  rintro e w1 ⟨rfl, h1⟩
  have hz := ups (show w.heap.size < w1.heap.size by have := h1.size; rw [World.size_alloc] at this; omega)
  have c0 : w1.cell? ⟨w.heap.size, 0, none⟩ = some (.string lo) := h1.cell' (by go_simp)
  have c1 : w1.cell? ⟨w.heap.size, 1, none⟩ = some (.string hi) := h1.cell' (by go_simp)
  go_wp2_with fail
  refine (right_any _ _ _).mono ?_
  rintro e w2 ⟨rfl, h2⟩
  have hz2 := ups (show w1.heap.size < w2.heap.size by have := h2.size; rw [World.size_alloc, World.size_alloc] at this; omega)
  have hz3 := ups (show w1.heap.size + 1 < w2.heap.size by have := h2.size; rw [World.size_alloc, World.size_alloc] at this; omega)
  have d0 : w2.cell? ⟨w1.heap.size, 0, none⟩ = some (.string lo) := h2.cell' (by go_simp)
  have d1 : w2.cell? ⟨w1.heap.size + 1, 0, none⟩ = some (.string hi) := h2.cell' (by go_simp)
  have F2 : Fr Nix w w2 := (((((Fr.refl _ _).alloc _).nix h1).alloc _).alloc _).nix h2
  clear h1 h2
  go_wp2_with (first | (go_at_call 18; refine (key_any _ _).mono ?_; rintro e w' ⟨rfl, rfl⟩) | (go_at_call 77; refine (cmp_any _ _ _).mono ?_; rintro e w' ⟨rfl, rfl⟩) | go_in)
  all_goals
    go_ret
    refine ⟨ret_bool ?_, ?_⟩
    rotate_left
    repeat refine Fr.alloc ?_ _
    exact F2
  all_goals
    clear F2 hz hz2 hz3 c0 c1 d0 d1 e1
    (try simp only [cmp_le_iff, cmp_pos_iff] at *)
    simp [hasB, cmp_pos, *]

/-- All keys. -/
theorem all_any (w : World) : Calls Try.prog 30 #[] w fun e w' => e = .returned (.agg #[.string ByteArray.empty, .string ByteArray.empty]) ∧ Fr Nix w w' := by
  go_enter Try.func30, Try.ntmps30
  go_wp2
  refine bodyPost_ret (v := .agg #[.string ByteArray.empty, .string ByteArray.empty]) (by simp [results, Try.results30, go_sem]; try rfl) rfl ⟨rfl, ?_⟩
  exact (Fr.refl _ _).alloc _
end Go.Proofs.Ytpggnelngfpfgaa
