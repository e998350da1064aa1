/- The document's bytes of rows. -/
import Derived.Test.YtnilbpofmohfhaaGreatRefB
import Derived.Test.YtnilbpofmohfhaaGreatRowsE
namespace Go.Proofs.YtnilbpofmohfhaaGreat
open Go.RowKit

theorem flagsB_nil : flagsB [] = [] := rfl
theorem textsB_nil : textsB [] = [] := rfl
theorem varsB_nil : varsB [] = [] := rfl

def pairsB (xs : List Rw) : List UInt8 := xs.flatMap pairB
set_option maxRecDepth 100000 in
set_option maxHeartbeats 4000000 in
theorem refBytes_any (w : World) (v : Value) (rs : List Rw) (hv : RdR w v rs) (hB : (bytesR rs).length ≤ 1000000000) (hlen : rs.length ≤ 1000000000) :
    Calls Tryz.prog 22 #[v] w fun e w' => ∃ v', e = .returned v' ∧ OwnB w' v' (bytesR rs) ∧ New w v' ∧ Fr Nix w w' := by
  obtain ⟨i0, hi, hz0, hz1, hz2⟩ := info_parts infoB
  obtain ⟨A, c, rfl⟩ : ∃ A c, v = .slice A rs.length c := by obtain ⟨_, A, c, e, _⟩ := hv; exact ⟨A, c, e⟩
  have hbl : (varB rs.length).length + (pairsB rs).length ≤ 1000000000 := by unfold bytesR at hB; rw [List.length_append] at hB; unfold pairsB; omega
  have HV := Lib.hid hv
  clear hv
  go_enter Tryz.func22, Tryz.ntmps22
  go_wp2_with fail
  refine (refWrite_any _ _ _ _ [rs.length] [] [] (Own1.lit (T := 3) (f := int6) w [rs.length] (by simp)).rd (fun n hn => by simp at hn; omega) (Rd1.nil _ _ _ _) (Rd1.nil _ _ _ _) (by rw [varsB_one, flagsB_nil, textsB_nil]; simp; omega)).mono ?_
  rintro e w1 ⟨v1, rfl, h1, h2, h3⟩
  rw [varsB_one, flagsB_nil, textsB_nil, List.append_nil, List.append_nil] at h1
  have H1 : Hid (OwnB w1 v1 (varB rs.length) ∧ New w v1 ∧ Fr Nix w w1) := ⟨h1, (fun k hk => Nat.le_trans (by rw [World.size_alloc]; omega) (h2 k hk)), ((Fr.refl _ _).alloc _).nix h3⟩
  clear h1 h2 h3
  obtain ⟨A1, n1, c1, e1⟩ := H1.out.1.rd.form'
  subst e1
  go_wp2_with fail
  go_loopg [3, 5] rs.length (fun gg s3 s5 wr => ∃ (k : Nat) (A : Option Addr) (n c : Nat), k ≤ rs.length ∧ rs.length - k ≤ gg ∧ s5 = .int .i64 k ∧ s3 = .slice A n c ∧ Hid (OwnB wr s3 (varB rs.length ++ pairsB (rs.take k)) ∧ New w s3 ∧ Fr Nix w wr))
  case atStart => exact ⟨0, _, _, _, by omega, by omega, rfl, rfl, by simpa [pairsB] using H1.out.1, H1.out.2.1, H1.out.2.2⟩
  case round =>
    clear H1
    obtain ⟨k, A1, n1, c1, hk, hg, rfl, rfl, H⟩ := hrel
    by_cases hlt : k < rs.length
    · obtain ⟨_, A', c', e, hr⟩ := HV.out.nix H.out.2.2
      cases e
      rcases hr with h9 | ⟨bb, off, rfl, hbb, hcc⟩
      · rw [h9] at hlt; cases hlt
      have c0 := (hcc k hlt).1
      have c2 := (hcc k hlt).2
      have HS : Hid (pairsB (rs.take (k + 1)) = pairsB (rs.take k) ++ pairB rs[k]) := flat_succ pairB rs k hlt
      have hfl : (pairsB (rs.take (k + 1))).length ≤ (pairsB rs).length := flat_le pairB rs (k + 1)
      have hfl2 : (varB rs.length ++ pairsB (rs.take k)).length + (pairB rs[k]).length ≤ 1000000000 := by
        rw [HS.out, List.length_append] at hfl
        rw [List.length_append]
        omega
      have HC : Hid (∀ W g, Fr Nix wr W → Rd1 Value.string W (.slice (some ⟨g, 0, none⟩) 2 2) [rs[k].k, rs[k].v] → Calls Tryz.prog 50 #[.slice none 0 0, .slice none 0 0, .slice (some ⟨g, 0, none⟩) 2 2, .slice none 0 0] W fun e w' => ∃ A n c, e = .returned (.tuple #[.slice A n c, .int .i64 0]) ∧ OwnB w' (.slice A n c) (pairB rs[k]) ∧ Fr Nix wr w') := by
        intro W g hF hrd
        refine (refWrite_any W _ _ _ [] [] [rs[k].k, rs[k].v] (Rd1.nil _ _ _ _) (fun n hn => by cases hn) (Rd1.nil _ _ _ _) hrd (by rw [varsB_nil, flagsB_nil]; unfold pairB at hfl2; simp only [List.length_nil]; omega)).mono ?_
        rintro e w' ⟨v', rfl, h1, h2, h3⟩
        rw [varsB_nil, flagsB_nil, List.nil_append, List.nil_append] at h1
        obtain ⟨A, n, c, rfl⟩ := h1.rd.form'
        exact ⟨A, n, c, rfl, h1, hF.nix h3⟩
      clear hcc hfl
      generalize rs[k] = y at c0 c2 HS hfl2 HC
      go_wp2_with fail
      go_region_with (go_at_call 50; refine (HC.out _ _ (((Fr.refl Nix wr).drew).alloc _) (Own1.lit (T := 9) (f := Value.string) wr.drew [y.k, y.v] (by simp)).rd).mono ?_; rintro e w1 ⟨A4, n4, c4, rfl, h1, h3⟩)
      all_goals
        have H1 := Lib.hid h1
        have H3 := Lib.hid h3
        clear h1 h3 HC
        go_wp2_with (at_builtin; refine wp_append rfl _ _ 50 rfl 5 i0 _ 1 1 Tryz.underlying50 hi hz0 hz1 hz2 rfl (by decide) _ (varB rs.length ++ pairsB (rs.take k)).length ((varB rs.length ++ pairsB (rs.take k)).map by8) rfl (H.out.1.mono H3.out (fun _ _ h => h)) _ rfl (pairB y).length ((pairB y).map by8) (H1.out.rd.src by8_one) ?c3 ?c4 ?c5)
        case c3 => simp only [maxLen]; omega
        case c4 => omega
        case c5 =>
          intro v' w' ho' hf hat
          have N : Hid (OwnB w' v' (varB rs.length ++ pairsB (rs.take (k + 1)))) := by
            show w'.ownsRow _ _ _ _ _ _
            rw [HS.out]
            simpa only [List.length_append, List.map_append, List.append_assoc, Nat.add_assoc] using ho'
          have FF : Hid (Fr Nix w w') := (H.out.2.2.nix H3.out).then hf (fun i hi h => by have := H.out.2.1 i h; omega)
          have NN : Hid (New w v') := fun i hi => by
            rcases hat with e | e
            · rw [e] at hi; exact H.out.2.1 i hi
            · rw [e] at hi; cases hi; exact (H.out.2.2.nix H3.out).size
          clear ho' hf hat
          obtain ⟨A2, n2, c2, e2⟩ := N.out.rd.form'
          subst e2
          go_wp2_with fail
          go_roundg (rs.length - (k + 1))
          case measure => omega
          case rel => exact ⟨k + 1, _, _, _, by omega, by omega, by go_num, rfl, N.out, NN.out, FF.out⟩
    · obtain rfl : k = rs.length := by omega
      have H1 : Hid (OwnB wr (.slice A1 n1 c1) (bytesR rs) ∧ New w (.slice A1 n1 c1) ∧ Fr Nix w wr) := by have := H.out; rw [List.take_length] at this; exact this
      clear H
      go_wp2_with fail
      go_ret
      exact ⟨_, rfl, H1.out.1, H1.out.2.1, H1.out.2.2⟩
end Go.Proofs.YtnilbpofmohfhaaGreat
