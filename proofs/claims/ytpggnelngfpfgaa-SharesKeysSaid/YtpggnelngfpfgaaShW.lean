/- Walks of package shares: Within (of spans), right, at, share, Right, Of, In. -/
import Derived.Test.YtpggnelngfpfgaaShB
import Derived.Test.YtpggnelngfpfgaaShD
import Derived.Deep.RegionHeld3
namespace Go.Proofs.Ytpggnelngfpfgaa
open Go.RowKit

theorem cmp_ge_iff (a b : ByteArray) : 0 ≤ cmpB a b ↔ ltB a b = false := by
  unfold cmpB
  cases h1 : ltB a b with
  | true => simp
  | false => cases h2 : ltB b a <;> simp
set_option maxRecDepth 100000 in
set_option maxHeartbeats 8000000 in
theorem within_any (p q lo hi : ByteArray) (w : World) : Calls Try.prog 20 #[.agg #[.string p, .string q], .agg #[.string lo, .string hi]] w fun e w' => e = .returned (.bool (withB p q lo hi)) ∧ Fr Nix w w' := by
  have e1 := empty_iff hi
  have e2 := empty_iff q
  have L1 := fun W => Lib.hid (right_any p q W)
  have L2 := fun W => Lib.hid (right_any lo hi W)
  go_enter Try.func20, Try.ntmps20
  go_wp2_with fail
  refine (ends_any _ _ _).mono ?_
  rintro e w1 ⟨rfl, h1⟩
  have s1 := h1.size
  simp only [World.size_alloc] at s1
  have c0 : w1.cell? ⟨w.heap.size, 0, none⟩ = some (.string p) := h1.cell' (by go_simp)
  have c1 : w1.cell? ⟨w.heap.size, 1, none⟩ = some (.string q) := h1.cell' (by go_simp)
  have c2 : w1.cell? ⟨w.heap.size + 1, 0, none⟩ = some (.string lo) := h1.cell' (by go_simp)
  have c3 : w1.cell? ⟨w.heap.size + 1, 1, none⟩ = some (.string hi) := h1.cell' (by go_simp)
  have F1 : Hid (Fr Nix w w1) := (((Fr.refl _ _).alloc _).alloc _).nix h1
  have z0 := ups (show w.heap.size < w1.heap.size by omega)
  have z1 := ups (show w.heap.size + 1 < w1.heap.size by omega)
  clear h1
  go_wp2_with fail
  refine (ends_any _ _ _).mono ?_
  rintro e w2 ⟨rfl, h2⟩
  have s2 := h2.size
  simp only [World.size_alloc] at s2
  have d0 : w2.cell? ⟨w.heap.size, 0, none⟩ = some (.string p) := h2.cell' (by go_simp)
  have d1 : w2.cell? ⟨w.heap.size, 1, none⟩ = some (.string q) := h2.cell' (by go_simp)
  have d2 : w2.cell? ⟨w.heap.size + 1, 0, none⟩ = some (.string lo) := h2.cell' (by go_simp)
  have d3 : w2.cell? ⟨w.heap.size + 1, 1, none⟩ = some (.string hi) := h2.cell' (by go_simp)
  have d4 : w2.cell? ⟨w1.heap.size, 0, none⟩ = some (.string p) := h2.cell' (by go_simp)
  have d5 : w2.cell? ⟨w1.heap.size + 1, 0, none⟩ = some (.string q) := h2.cell' (by go_simp)
  have F2 : Hid (Fr Nix w w2) := ((F1.out.alloc _).alloc _).nix h2
  have y0 := ups (show w.heap.size < w2.heap.size by omega)
  have y1 := ups (show w.heap.size + 1 < w2.heap.size by omega)
  have y2 := ups (show w1.heap.size < w2.heap.size by omega)
  have y3 := ups (show w1.heap.size + 1 < w2.heap.size by omega)
  clear h2 z0 z1 c0 c1 c2 c3 F1
  go_wp2_with fail
  refine (L1 _).out.mono ?_
  rintro e w3 ⟨rfl, h3⟩
  have s3 := h3.size
  simp only [World.size_alloc] at s3
  have k2 : w3.cell? ⟨w.heap.size + 1, 0, none⟩ = some (.string lo) := h3.cell' (by go_simp)
  have k3 : w3.cell? ⟨w.heap.size + 1, 1, none⟩ = some (.string hi) := h3.cell' (by go_simp)
  have k4 : w3.cell? ⟨w1.heap.size, 0, none⟩ = some (.string p) := h3.cell' (by go_simp)
  have k5 : w3.cell? ⟨w1.heap.size + 1, 0, none⟩ = some (.string q) := h3.cell' (by go_simp)
  have k6 : w3.cell? ⟨w2.heap.size, 0, none⟩ = some (.string lo) := h3.cell' (by go_simp)
  have k7 : w3.cell? ⟨w2.heap.size + 1, 0, none⟩ = some (.string hi) := h3.cell' (by go_simp)
  have F3 : Hid (Fr Nix w w3) := ((F2.out.alloc _).alloc _).nix h3
  clear h3 y0 y1 y2 y3 d0 d1 d2 d3 d4 d5 F2
  cases hr1 : rightB p q with
  | false =>
    have HF : Hid (withB p q lo hi = false) := by show _ = _; simp [withB, hr1]
    clear hr1
    go_wp2_with fail
    go_ret
    exact ⟨ret_bool HF.out.symm, F3.out⟩
  | true =>
    have HR1 := Lib.hid hr1
    clear hr1
    go_wp2_with fail
    refine (L2 _).out.mono ?_
    rintro e w4 ⟨rfl, h4⟩
    have m4 : w4.cell? ⟨w1.heap.size, 0, none⟩ = some (.string p) := h4.cell' k4
    have m5 : w4.cell? ⟨w1.heap.size + 1, 0, none⟩ = some (.string q) := h4.cell' k5
    have m6 : w4.cell? ⟨w2.heap.size, 0, none⟩ = some (.string lo) := h4.cell' k6
    have m7 : w4.cell? ⟨w2.heap.size + 1, 0, none⟩ = some (.string hi) := h4.cell' k7
    have F4 : Hid (Fr Nix w w4) := F3.out.nix h4
    clear h4 k2 k3 k4 k5 k6 k7 F3
    cases hr2 : rightB lo hi with
    | false =>
      have HF : Hid (withB p q lo hi = false) := by show _ = _; simp [withB, hr2]
      clear hr2
      go_wp2_with fail
      go_ret
      exact ⟨ret_bool HF.out.symm, F4.out⟩
    | true =>
      have HW : Hid (withB p q lo hi = (!(ltB p lo) && (noneB hi || (!noneB q && !(ltB hi q))))) := by show _ = _; simp [withB, HR1.out, hr2]
      clear hr2
      have z4 := ups (World.block_lt_of_cell? _ _ m4)
      have z5 := ups (World.block_lt_of_cell? _ _ m5)
      have z6 := ups (World.block_lt_of_cell? _ _ m6)
      have z7 := ups (World.block_lt_of_cell? _ _ m7)
      go_wp2_with (first | (go_at_call 77; refine (cmp_any _ _ _).mono ?_; rintro e w' ⟨rfl, rfl⟩) | go_in)
      all_goals
        go_ret
        refine ⟨ret_bool ?_, ?_⟩
        rotate_left
        repeat refine Fr.alloc ?_ _
        exact F4.out
      all_goals
        rw [HW.out]
        clear HW F4 z4 z5 z6 z7 m4 m5 m6 m7 e1 e2
        (try simp only [cmp_le_iff, cmp_pos_iff, cmp_ge_iff] at *)
        simp [*]

set_option maxRecDepth 100000 in
set_option maxHeartbeats 2000000 in
/-- The closure of right: is a share wrong? -/
theorem right1_any (x : Shr) (b : Nat) (ep : Int) (w : World) (hc : w.cell? ⟨b, 0, none⟩ = some (.int .i64 ep)) :
    Calls Try.prog 64 #[x.val, .pointer (some ⟨b, 0, none⟩)] w fun e w' => e = .returned (.bool (!shrOk ep x)) ∧ Fr Nix w w' := by
  obtain ⟨lo, hi, g, e⟩ := x
  unfold Shr.val
  have hb := ups (World.block_lt_of_cell? _ _ hc)
  go_enter Try.func64, Try.ntmps64
  go_wp2_with (go_at_call 29; refine (withinI_any _ _ _ _).mono ?_; rintro e w' ⟨rfl, rfl⟩)
  all_goals
    go_ret
    refine ⟨ret_bool (by simp [shrOk, *]), (Fr.refl _ _).alloc _⟩
theorem eg64 : ∀ args w, (callFunc 64 args).run Try.prog w = .ok (.enter 64 args) w := fun _ _ => by kernel_rfl
theorem any_not_ok (ep : Int) : ∀ xs : List Shr, (xs.any fun x => !shrOk ep x) = !xs.all (shrOk ep)
  | [] => rfl
  | x :: r => by rw [List.any_cons, List.all_cons, any_not_ok ep r]; cases shrOk ep x <;> rfl

set_option maxRecDepth 100000 in
set_option maxHeartbeats 4000000 in
/-- Are shares right? -/
theorem rightSh_any (w : World) (ep : Int) (v : Value) (xs : List Shr) (hv : RdSh w v xs) (hl : xs.length ≤ 1000000000) :
    Calls Try.prog 33 #[.agg #[.int .i64 ep, v]] w fun e w' => e = .returned (.bool (rightS ⟨ep, xs⟩)) ∧ Fr Nix w w' := by
  obtain ⟨A, c, rfl⟩ := hv.form
  have HV := Lib.hid hv
  clear hv
  have HP : Hid (PredSh Try.prog 64 #[.pointer (some ⟨w.heap.size, 0, none⟩)] (fun x => !shrOk ep x) (w.alloc (.cells #[.int .i64 ep, .slice A xs.length c] 70))) := fun W x hW => right1_any x w.heap.size ep W (hW.cell' (by go_simp))
  have HC := Lib.hid (containsFuncSh_any 64 #[.pointer (some ⟨w.heap.size, 0, none⟩)] (fun x => !shrOk ep x) (w.alloc (.cells #[.int .i64 ep, .slice A xs.length c] 70)) (.slice A xs.length c) xs (HV.out.nix ((Fr.refl _ _).alloc _)) HP.out eg64)
  have hs := any_not_ok ep xs
  rw [hs] at HC
  clear hs HP
  go_enter Try.func33, Try.ntmps33
  go_wp2_with fail
  refine HC.out.mono ?_
  rintro e w1 ⟨rfl, h1⟩
  have c0 : w1.cell? ⟨w.heap.size, 0, none⟩ = some (.int .i64 ep) := h1.cell' (by go_simp)
  have c1 : w1.cell? ⟨w.heap.size, 1, none⟩ = some (.slice A xs.length c) := h1.cell' (by go_simp)
  have F1 : Hid (Fr Nix w w1) := ((Fr.refl _ _).alloc _).nix h1
  have hR : Hid (rightS ⟨ep, xs⟩ = (inB ep 1 1073741824 && decide (xs.length ≤ 40) && xs.all (shrOk ep) && partsB (xs.map Shr.sp))) := rfl
  have HSP := Lib.hid (spans_any w1 ep (.slice A xs.length c) xs (HV.out.nix F1.out) hl)
  clear h1 HC
  have finish : ∀ b, b = rightS ⟨ep, xs⟩ → (Ending.returned (.bool b) = Ending.returned (.bool (rightS ⟨ep, xs⟩)) ∧ Fr Nix w w1) := fun b hb => ⟨ret_bool hb, F1.out⟩
  cases he : inB ep 1 1073741824 with
  | false =>
    go_wp2_with (go_at_call 29; refine (withinI_any _ _ _ _).mono ?_; rintro e w' ⟨rfl, rfl⟩)
    go_ret
    exact finish _ (by rw [hR.out, he]; rfl)
  | true =>
    have HE := Lib.hid he
    clear he
    by_cases h40 : xs.length ≤ 40
    · have h40i : (xs.length : Int) ≤ 40 := by omega
      cases ha : xs.all (shrOk ep) with
      | false =>
        have HA := Lib.hid ha
        clear ha
        go_wp2_with (go_at_call 29; refine (withinI_any _ _ _ _).mono ?_; rintro e w' ⟨rfl, rfl⟩; rw [HE.out])
        go_ret
        exact finish _ (by rw [hR.out, HA.out]; simp)
      | true =>
        have HA := Lib.hid ha
        clear ha
        go_wp2_with (go_at_call 29; refine (withinI_any _ _ _ _).mono ?_; rintro e w' ⟨rfl, rfl⟩; rw [HE.out])
        refine HSP.out.mono ?_
        rintro e w2 ⟨v2, rfl, g1, g2, g3⟩
        have HPT := Lib.hid (parts_any w2 v2 _ g1.rd)
        obtain ⟨A2, n2, c2, rfl⟩ := g1.form
        have F2 : Hid (Fr Nix w w2) := F1.out.nix g3
        clear g1 g2 g3
        go_wp2_with fail
        refine HPT.out.mono ?_
        rintro e w3 ⟨rfl, h3⟩
        go_wp2_with fail
        go_ret
        exact ⟨ret_bool (by rw [hR.out, HE.out, HA.out, decide_eq_true h40]; rfl), F2.out.nix h3⟩
    · have h40i : ¬ (xs.length : Int) ≤ 40 := by omega
      go_wp2_with (go_at_call 29; refine (withinI_any _ _ _ _).mono ?_; rintro e w' ⟨rfl, rfl⟩; rw [HE.out])
      go_ret
      exact finish _ (by rw [hR.out, decide_eq_false h40]; simp)
set_option maxRecDepth 100000 in
theorem sharesRight_any (w : World) (ep : Int) (v : Value) (xs : List Shr) (hv : RdSh w v xs) (hl : xs.length ≤ 1000000000) :
    Calls Try.prog 15 #[.agg #[.int .i64 ep, v]] w fun e w' => e = .returned (.bool (rightS ⟨ep, xs⟩)) ∧ Fr Nix w w' := by
  have HC := fun W (h : Fr Nix w W) => Lib.hid (rightSh_any W ep v xs (hv.nix h) hl)
  obtain ⟨A, c, rfl⟩ := hv.form
  clear hv
  go_enter Try.func15, Try.ntmps15
  go_wp2_with fail
  refine (HC _ ((Fr.refl _ _).alloc _)).out.mono ?_
  rintro e w1 ⟨rfl, h1⟩
  go_wp2_with fail
  go_ret
  exact ⟨rfl, ((Fr.refl _ _).alloc _).nix h1⟩
end Go.Proofs.Ytpggnelngfpfgaa
