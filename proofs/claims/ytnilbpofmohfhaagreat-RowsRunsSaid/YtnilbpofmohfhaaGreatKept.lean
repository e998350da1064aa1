/- Rows kept: what was lent is as it was. -/
import Derived.Test.YtnilbpofmohfhaaGreatMark
import Derived.Test.YtnilbpofmohfhaaGreatGt
namespace Go.Proofs.YtnilbpofmohfhaaGreat
open Go.RowKit

@[go_sem high] theorem eqlRow (w : World) (x0 x1 y0 y1 : ByteArray) :
    (binOp .eql 48 (.agg #[.string x0, .string x1]) (.agg #[.string y0, .string y1])).run Tryz.prog w = .ok (.bool (decide (x0 = y0) && decide (x1 = y1))) w := by
  rw [run_eql_struct, eqRow 9998, toList_inj, toList_inj]
  rfl

theorem RdR.at {w : World} {g off n c : Nat} {xs : List Rw} (h : RdR w (.slice (some ⟨g, off, none⟩) n c) xs) (i : Nat) (hi : i < xs.length) : g < w.heap.size ∧ w.cell? ⟨g, off + i * 2, none⟩ = some (.string xs[i].k) ∧ w.cell? ⟨g, off + i * 2 + 1, none⟩ = some (.string xs[i].v) := by
  obtain ⟨_, A', c', e, hr⟩ := h
  simp only [Value.slice.injEq] at e
  obtain ⟨rfl, _, _⟩ := e
  rcases hr with rfl | ⟨b, o, e2, hb, hcc⟩
  · cases hi
  · simp only [Option.some.injEq, Addr.mk.injEq] at e2
    obtain ⟨rfl, rfl, _⟩ := e2
    exact ⟨hb, hcc i hi⟩

set_option maxRecDepth 100000 in
set_option maxHeartbeats 4000000 in
theorem kept_any (w : World) (g : Nat) (u : Value) (xs : List Rw) (hv : RdR w (.slice (some ⟨g, 0, none⟩) (xs.length + 12) (xs.length + 12)) (xs ++ marksR 12)) (hu : RdR w u xs) (hl : xs.length ≤ 100000) :
    Calls Tryz.prog 30 #[.slice (some ⟨g, 0, none⟩) xs.length (xs.length + 12), u] w fun e w' => e = .returned (.bool true) ∧ Fr Nix w w' := by
  obtain ⟨A, c, rfl⟩ : ∃ A c, u = .slice A xs.length c := by obtain ⟨_, A, c, e, _⟩ := hu; exact ⟨A, c, e⟩
  have hlen : (xs ++ marksR 12).length = xs.length + 12 := by simp [marksR]
  have HV := Lib.hid hv
  have HU := Lib.hid hu
  have HLEN := Lib.hid hlen
  clear hv hu hlen
  have hw1 : IntKind.i64.wrap ((xs.length : Int) + 12) = (xs.length : Int) + 12 := IntWalk.i64_in _ (by omega)
  have e1 : ((xs.length : Int) + 12).toNat = xs.length + 12 := by omega
  have hq : (xs.length : Int) ≤ ((xs.length : Int) + 12) := by omega
  have hq2 : ¬ xs.length + 12 = 0 := by omega
  have hq3 : (0 : Int) ≤ (xs.length : Int) + 12 := by omega
  go_enter Tryz.func30, Tryz.ntmps30
  go_wp2_with fail
  go_loopg [6] (xs.length + 12) (fun gg s6 wr => ∃ k : Nat, k ≤ xs.length + 12 ∧ xs.length + 12 - k ≤ gg ∧ s6 = .int .i64 k ∧ Hid (Fr Nix w wr))
  case atStart => exact ⟨0, by omega, by omega, rfl, Fr.refl _ _⟩
  case round =>
    obtain ⟨k, hk, hg, rfl, H⟩ := hrel
    by_cases hlt : k < xs.length + 12
    · have hk12 : k < (xs ++ marksR 12).length := by rw [HLEN.out]; exact hlt
      obtain ⟨hbl, x0, x1⟩ := (HV.out.nix H.out).at k hk12
      simp only [Nat.zero_add] at x0 x1
      by_cases hkn : k < xs.length
      · have hkni : (k : Int) < (xs.length : Int) := by omega
        have hkni2 : ¬ (xs.length : Int) ≤ (k : Int) := by omega
        have hkni3 : ¬ xs.length ≤ k := by omega
        have hr2 := HU.out.nix H.out
        obtain ⟨_, A', c', e, hr⟩ := hr2
        cases e
        rcases hr with h0 | ⟨b2, off2, rfl, hbl2, hcc⟩
        · rw [h0] at hkn; cases hkn
        have y0 := (hcc k hkn).1
        have y1 := (hcc k hkn).2
        rw [List.getElem_append_left hkn] at x0 x1
        generalize xs[k] = y at x0 x1 y0 y1
        clear hcc hk12
        go_wp2_with fail
        go_quiet (fail)
        go_wp2_with fail
        go_roundg (xs.length + 12 - (k + 1))
        case measure => omega
        case rel => exact ⟨k + 1, by omega, by omega, by go_num, H.out.drewN _⟩
      · have hkni : ¬ (k : Int) < (xs.length : Int) := by omega
        have hkni2 : (xs.length : Int) ≤ (k : Int) := by omega
        have hklt : (k : Int) < (xs.length : Int) + 12 := by omega
        have hkni3 : xs.length ≤ k := by omega
        rw [List.getElem_append_right (by omega)] at x0 x1
        have hmk : ∀ h, (marksR 12)[k - xs.length]'h = markR 1 (k - xs.length) := fun h => by simp [marksR]
        rw [hmk] at x0 x1
        obtain ⟨j, hj⟩ : ∃ j, j = k - xs.length := ⟨_, rfl⟩
        rw [← hj] at x0 x1
        have hsub : (k : Int) - (xs.length : Int) = (j : Int) := by omega
        have hj5 : IntKind.i64.wrap ((j : Nat) : Int) = (j : Int) := IntWalk.i64_in _ (by omega)
        have HM := fun W => Lib.hid (markRow_any W 1 j (by omega) (by omega))
        have HJ := Lib.hid hj
        clear hj hk12 hmk
        unfold Rw.val at HM
        generalize markR 1 j = y at x0 x1 HM
        have z0 := Gt.cell x0
        have z1 := Gt.cell x1
        go_wp2_with fail
        refine wp_region_gt (by kernel_rfl) (by kernel_rfl) ?_
        repeat (go_big_quiet_step ((go_at_call 52; exact (HM _).out.gt)))
        refine wpQuiet_nil ?_
        rintro _ ⟨⟨w2, h2⟩, rfl⟩
        go_wp2_with fail
        go_roundg (xs.length + 12 - (k + 1))
        case measure => omega
        case rel => exact ⟨k + 1, by omega, by omega, by go_num, H.out.nix h2⟩
    · obtain rfl : k = xs.length + 12 := by omega
      go_wp2_with fail
      go_ret
      exact ⟨rfl, H.out⟩
end Go.Proofs.YtnilbpofmohfhaaGreat
