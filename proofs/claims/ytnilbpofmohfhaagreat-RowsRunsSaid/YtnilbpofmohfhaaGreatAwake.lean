/- The anchor of watershedlaw15: awake tells true. -/
import Derived.Test.YtnilbpofmohfhaaGreatRowsE
import Derived.Test.YtnilbpofmohfhaaGreatKitR
namespace Go.Proofs.YtnilbpofmohfhaaGreat
open Go.RowKit

theorem rd_lit (w : World) (xs : List Rw) (hl : xs.length ≤ 1000) : RdR (w.alloc (.cells (cellsR xs).toArray 48)) (.slice (some ⟨w.heap.size, 0, none⟩) xs.length xs.length) xs :=
  (OwnR.of_blk (Blk.new w (cellsR xs) 48) (Nat.le_refl _) (by simp only [maxLen]; omega) (cellsR_length xs) (by rw [List.take_of_length_le (by rw [cellsR_length]; exact Nat.le_refl _)])).rd
theorem same_self (xs : List Rw) : sameR xs xs = true := (sameR_iff xs xs).2 rfl

set_option maxHeartbeats 2000000 in
theorem awake_any (w : World) :
    Calls Tryz.prog 6 #[] w fun e w' => e = .returned (.bool true) ∧ Fr Nix w w' := by
  go_enter Tryz.func6, Tryz.ntmps6
  go_wp2_with fail
  refine (newT_any _).mono ?_
  rintro e w1 ⟨rfl, h1, h2, h3⟩
  have H1 := Lib.hid h1
  have H2 := Lib.hid h2
  have H3 := Lib.hid h3
  clear h1 h2 h3
  go_wp2_with fail
  have R0 := rd_lit w1 [⟨⟨#[98]⟩, ⟨#[49]⟩⟩, ⟨⟨#[97]⟩, ⟨#[50]⟩⟩, ⟨⟨#[98]⟩, ⟨#[51]⟩⟩] (by decide)
  refine (putT_any _ _ _ _ _ (H1.out.mono ((Fr.refl Nix _).alloc _) (fun _ _ h => h)) R0 (by decide)).mono ?_
  rintro e w2 ⟨rfl, h1, h2, h3⟩
  have e1 : putE [] [⟨⟨#[98]⟩, ⟨#[49]⟩⟩, ⟨⟨#[97]⟩, ⟨#[50]⟩⟩, ⟨⟨#[98]⟩, ⟨#[51]⟩⟩] = 0 := by kernel_rfl
  have e2 : putT [] [⟨⟨#[98]⟩, ⟨#[49]⟩⟩, ⟨⟨#[97]⟩, ⟨#[50]⟩⟩, ⟨⟨#[98]⟩, ⟨#[51]⟩⟩] = [⟨⟨#[97]⟩, ⟨#[50]⟩⟩, ⟨⟨#[98]⟩, ⟨#[51]⟩⟩] := by kernel_rfl
  rw [e1]
  rw [e2] at h1
  have hs0 := H2.out.size
  have F2 : Hid (Fr Nix w w2) := (H2.out.alloc _).then h2 (fun i hi h => by omega)
  have T2 := Lib.hid h1
  have N2 : Hid (∀ k, FootT w2 w.heap.size k → w.heap.size ≤ k) := fun k hk => by
    rcases h3 k hk with h | h
    · exact H3.out k ((FootT.same H1.out ((Fr.refl Nix _).alloc _) (fun _ _ h => h)).1 h)
    · simp at h; omega
  clear h1 h2 h3 e1 e2 R0 H1 H2 H3
  go_wp2_with fail
  refine (in_any _ _ _ _ _ T2.out).mono ?_
  rintro e w3 ⟨v3, rfl, h1, h2, h3⟩
  have e1 : inR ⟨#[]⟩ ⟨#[]⟩ [⟨⟨#[97]⟩, ⟨#[50]⟩⟩, ⟨⟨#[98]⟩, ⟨#[51]⟩⟩] = [⟨⟨#[97]⟩, ⟨#[50]⟩⟩, ⟨⟨#[98]⟩, ⟨#[51]⟩⟩] := by kernel_rfl
  rw [e1] at h1
  have T3 := Lib.hid (T2.out.mono h3 (fun _ _ h => h))
  have N3 : Hid (∀ k, FootT w3 w.heap.size k → w.heap.size ≤ k ∧ k < w2.heap.size) := fun k hk => by
    have := (FootT.same T2.out h3 (fun _ _ h => h)).1 hk
    exact ⟨N2.out k this, T2.out.lt this⟩
  have R3 := Lib.hid h1.rd
  have O3 := Lib.hid h1
  have V3 := Lib.hid h2
  have F3 : Hid (Fr Nix w w3) := F2.out.nix h3
  clear h1 h2 h3 e1 T2 N2 F2
  obtain ⟨A3, c3, ev3⟩ : ∃ A c, v3 = .slice A 2 c := by obtain ⟨_, A, c, e, _⟩ := R3.out; exact ⟨A, c, e⟩
  subst ev3
  go_wp2_with fail
  refine (take_any _ _ _ _ _ T3.out).mono ?_
  rintro e w4 ⟨v4, rfl, h1, h2, h3, h4, h5⟩
  have e1 : inR ⟨#[97]⟩ ⟨#[98]⟩ [⟨⟨#[97]⟩, ⟨#[50]⟩⟩, ⟨⟨#[98]⟩, ⟨#[51]⟩⟩] = [⟨⟨#[97]⟩, ⟨#[50]⟩⟩] := by kernel_rfl
  have e2 : outR ⟨#[97]⟩ ⟨#[98]⟩ [⟨⟨#[97]⟩, ⟨#[50]⟩⟩, ⟨⟨#[98]⟩, ⟨#[51]⟩⟩] = [⟨⟨#[98]⟩, ⟨#[51]⟩⟩] := by kernel_rfl
  rw [e1] at h1
  rw [e2] at h3
  have R4 : Hid (RdR w4 (.slice A3 2 c3) [⟨⟨#[97]⟩, ⟨#[50]⟩⟩, ⟨⟨#[98]⟩, ⟨#[51]⟩⟩]) := (O3.out.mono h4 (fun k hk h => by
    have := V3.out k hk
    have := (N3.out k h).2
    omega)).rd
  have R4' := Lib.hid h1.rd
  have T4 := Lib.hid h3
  have F4 : Hid (Fr Nix w w4) := F3.out.then h4 (fun k hk h => by have := (N3.out k h).1; omega)
  clear h1 h2 h3 h4 h5 e1 e2 T3 N3 R3 O3 V3 F3
  obtain ⟨A4, c4, ev4⟩ : ∃ A c, v4 = .slice A 1 c := by obtain ⟨_, A, c, e, _⟩ := R4'.out; exact ⟨A, c, e⟩
  subst ev4
  go_wp2_with fail
  refine (sameLines_any _ _ _ _ _ (R4.out.nix ((Fr.refl _ _).alloc _)) (rd_lit w4 [⟨⟨#[97]⟩, ⟨#[50]⟩⟩, ⟨⟨#[98]⟩, ⟨#[51]⟩⟩] (by decide))).mono ?_
  rintro e w5 ⟨rfl, h1⟩
  rw [same_self]
  have F5 : Hid (Fr Nix w4 w5) := ((Fr.refl _ _).alloc _).nix h1
  clear h1
  go_wp2_with fail
  refine (sameLines_any _ _ _ _ _ (R4'.out.nix (F5.out.alloc _)) (rd_lit w5 [⟨⟨#[97]⟩, ⟨#[50]⟩⟩] (by decide))).mono ?_
  rintro e w6 ⟨rfl, h1⟩
  rw [same_self]
  have F6 : Hid (Fr Nix w4 w6) := (F5.out.alloc _).nix h1
  clear h1
  go_wp2_with fail
  refine (many_any _ _ _ (T4.out.mono F6.out (fun _ _ h => h))).mono ?_
  rintro e w7 ⟨rfl, rfl⟩
  go_wp2_with fail
  go_ret
  exact ⟨rfl, F4.out.nix F6.out⟩
end Go.Proofs.YtnilbpofmohfhaaGreat
