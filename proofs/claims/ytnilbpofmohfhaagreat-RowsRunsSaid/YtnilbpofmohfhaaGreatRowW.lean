/- rows.Write: rows as bytes. -/
import Derived.Test.YtnilbpofmohfhaaGreatByteX
import Derived.Test.YtnilbpofmohfhaaGreatKitR
namespace Go.Proofs.YtnilbpofmohfhaaGreat
open Go.RowKit

def pairB (x : Rw) : List UInt8 := textsB [x.k, x.v]
/-- The bytes of rows. -/
def bytesR (xs : List Rw) : List UInt8 := varB xs.length ++ xs.flatMap pairB
theorem varsB_one (n : Nat) : varsB [n] = varB n := by simp [varsB]
theorem rd1_mono_nix {α : Type} {f : α → Value} {w w' : World} {v : Value} {xs : List α} (h : Rd1 f w v xs) (hf : Fr Nix w w') : Rd1 f w' v xs := h.nix hf

theorem RdR.mono1 {F : Nat → Prop} {w w' : World} {v : Value} {xs : List Rw} (h : RdR w v xs) (hf : Fr F w w') (hF : ∀ k, v.ownBlock = some k → ¬ F k) : RdR w' v xs :=
  h.mono hf (fun b off n cap e => hF b (by rw [e]; rfl))

set_option maxHeartbeats 2000000 in
theorem rowsWrite_any (w : World) (b : Nat) (bad : Bool) (xs : List UInt8) (v : Value) (rs : List Rw) (h : IsW w b bad xs) (hv : RdR w v rs) (hvf : ∀ k, v.ownBlock = some k → ¬ FootW w b k)
    (hB : xs.length + (bytesR rs).length ≤ 1000000000) (hlen : rs.length ≤ 1000000000) :
    Calls Tryz.prog 35 #[.pointer (some ⟨b, 0, none⟩), v] w fun e w' => e = .returned (.pointer (some ⟨b, 0, none⟩)) ∧ StepW w w' b bad (xs ++ bytesR rs) := by
  obtain ⟨A, c, rfl⟩ : ∃ A c, v = .slice A rs.length c := by obtain ⟨_, A, c, e, _⟩ := hv; exact ⟨A, c, e⟩
  have hbl : xs.length + (varB rs.length).length + (rs.flatMap pairB).length ≤ 1000000000 := by unfold bytesR at hB; rw [List.length_append] at hB; omega
  have H0 := Lib.hid h
  have HN : Hid (Calls Tryz.prog 79 #[.pointer (some ⟨b, 0, none⟩), .slice (some ⟨w.heap.size, 0, none⟩) 1 1] (w.alloc (.cells #[.int .i64 rs.length] 3)) fun e w' => e = .returned (.pointer (some ⟨b, 0, none⟩)) ∧ StepW w w' b bad (xs ++ varB rs.length)) := by
    have hF : Fr Nix w (w.alloc (.cells #[.int .i64 rs.length] 3)) := (Fr.refl _ _).alloc _
    refine (numbersW_any _ b bad xs _ [rs.length] (h.mono hF (fun _ _ h => h)) (Own1.lit (T := 3) (f := int6) w [rs.length] (by simp)).rd (fun n hn => by simp at hn; omega) (fun i hi h' => ?_) (by rw [varsB_one]; omega)).mono ?_
    · obtain rfl : w.heap.size = i := by simpa [Value.ownBlock] using hi
      have := h.lt ((FootW.same h hF (fun _ _ h => h)).1 h')
      omega
    · rintro e w' ⟨rfl, h1⟩
      rw [varsB_one] at h1
      exact ⟨rfl, ((StepW.refl h).nix hF).trans h1⟩
  have HG : Hid (∀ W bad ys, StepW w W b bad ys → RdR W (.slice A rs.length c) rs) := fun W bad ys hs => hv.mono1 hs.2.1 hvf
  clear h hv
  go_enter Tryz.func35, Tryz.ntmps35
  go_wp2_with fail
  refine HN.out.mono ?_
  rintro e w1 ⟨rfl, h1⟩
  have S1 := Lib.hid h1
  clear h1 HN
  go_wp2_with fail
  go_loopg [6, 14] rs.length (fun gg s6 s14 wr => ∃ (k : Nat), k ≤ rs.length ∧ rs.length - k ≤ gg ∧ s14 = .int .i64 k ∧ Hid (StepW w wr b bad (xs ++ varB rs.length ++ (rs.take k).flatMap pairB)))
  case atStart => exact ⟨0, by omega, by omega, rfl, Lib.hid (by simpa using S1.out)⟩
  case round =>
    obtain ⟨k, hk, hgg, rfl, H⟩ := hrel
    by_cases hlt : k < rs.length
    · have hrd := HG.out wr bad _ H.out
      obtain ⟨_, A', c', e, hr⟩ := hrd
      cases e
      rcases hr with h9 | ⟨bb, off, rfl, hbb, hcc⟩
      · rw [h9] at hlt; cases hlt
      have c0 := (hcc k hlt).1
      have c1 := (hcc k hlt).2
      have hfl := flat_le pairB rs (k + 1)
      have HS : Hid ((rs.take (k + 1)).flatMap pairB = (rs.take k).flatMap pairB ++ pairB rs[k]) := flat_succ pairB rs k hlt
      have HC : Hid (∀ W g, Fr Nix wr W → wr.heap.size ≤ g → Rd1 Value.string W (.slice (some ⟨g, 0, none⟩) 2 2) [rs[k].k, rs[k].v] → Calls Tryz.prog 80 #[.pointer (some ⟨b, 0, none⟩), .slice (some ⟨g, 0, none⟩) 2 2] W fun e w' => e = .returned (.pointer (some ⟨b, 0, none⟩)) ∧ StepW wr w' b bad (xs ++ varB rs.length ++ (rs.take (k + 1)).flatMap pairB)) := by
        intro W g hF hg hrd
        rw [HS.out, ← List.append_assoc]
        refine (textsW_any W b bad _ _ [rs[k].k, rs[k].v] (H.out.1.mono hF (fun _ _ h => h)) hrd (fun i hi h' => ?_) ?_).mono ?_
        · obtain rfl : g = i := by simpa [Value.ownBlock] using hi
          have := H.out.1.lt ((FootW.same H.out.1 hF (fun _ _ h => h)).1 h')
          omega
        · rw [HS.out, List.length_append] at hfl
          rw [List.length_append, List.length_append]
          unfold pairB at hfl hbl ⊢
          omega
        · rintro e w' ⟨rfl, h1⟩
          exact ⟨rfl, ((StepW.refl H.out.1).nix hF).trans h1⟩
      clear hcc hfl
      generalize rs[k] = y at c0 c1 HC HS
      go_wp2_with fail
      have hL := (Own1.lit (T := 9) (f := Value.string) (wr.alloc (.cells #[.string y.k, .string y.v] 48)) [y.k, y.v] (by simp)).rd
      rw [World.size_alloc] at hL
      refine (HC.out _ _ (((Fr.refl _ _).alloc _).alloc _) (Nat.le_succ _) hL).mono ?_
      rintro e w2 ⟨rfl, h1⟩
      have S2 : Hid (StepW w w2 b bad (xs ++ varB rs.length ++ (rs.take (k + 1)).flatMap pairB)) := H.out.trans h1
      clear h1 HC hL
      go_wp2_with fail
      go_roundg (rs.length - (k + 1))
      case measure => omega
      case rel => exact ⟨k + 1, by omega, by omega, by go_num, S2.out⟩
    · obtain rfl : k = rs.length := by omega
      have hH := H.out
      rw [List.take_length, List.append_assoc] at hH
      go_wp2_with fail
      go_ret
      exact ⟨rfl, hH⟩
end Go.Proofs.YtnilbpofmohfhaaGreat
