/- The spans of shares; span.Parts; span.Within; whether shares are right. -/
import Derived.Test.YtpggnelngfpfgaaShA
import Derived.Test.YtpggnelngfpfgaaGt
namespace Go.Proofs.Ytpggnelngfpfgaa
open Go.RowKit

set_option maxRecDepth 100000 in
set_option maxHeartbeats 4000000 in
/-- The spans of shares. -/
theorem spans_any (w : World) (ep : Int) (v : Value) (xs : List Shr) (hr : RdSh w v xs) (hl : xs.length ≤ 1000000000) :
    Calls Try.prog 66 #[.agg #[.int .i64 ep, v]] w fun e w' => ∃ v', e = .returned v' ∧ OwnS w' v' (xs.map Shr.sp) ∧ New w v' ∧ Fr Nix w w' := by
  obtain ⟨i0, hi0, hz0, hz1, hz2⟩ := info_parts infoSpan
  obtain ⟨hm, A, cap, rfl, hr⟩ := hr
  have HR := Lib.hid hr
  clear hr
  go_enter Try.func66, Try.ntmps66
  go_wp2_with fail
  go_loopg [3, 10] xs.length (fun gg s3 s10 wr => ∃ (k : Nat) (A : Option Addr) (L c : Nat), k ≤ xs.length ∧ xs.length - k ≤ gg ∧ s10 = .int .i64 k ∧ s3 = .slice A L c ∧ Hid (OwnS wr (.slice A L c) ((xs.map Shr.sp).take k) ∧ New w (.slice A L c) ∧ Fr Nix w wr))
  case atStart => exact ⟨0, none, 0, 0, Nat.zero_le _, by omega, rfl, rfl, World.ownsRow_nil _ _ _ _, (fun k hk => by cases hk), (Fr.refl _ _).alloc _⟩
  case round =>
    obtain ⟨k, A5, L5, c5, hk, hg, rfl, rfl, H⟩ := hrel
    by_cases hlt : k < xs.length
    · rcases HR.out with h0 | ⟨b, off, rfl, hb, hc⟩
      · rw [h0] at hlt; cases hlt
      obtain ⟨c0, c1, c2, c3⟩ := sh_cells hc H.out.2.2 k hlt
      have hT : Hid ((xs.map Shr.sp).take (k + 1) = (xs.map Shr.sp).take k ++ [⟨xs[k].lo, xs[k].hi⟩] ∧ ((xs.map Shr.sp).take k).length = k) := by
        constructor
        · rw [List.take_succ_eq_append_getElem (by simpa using hlt)]
          simp [Shr.sp]
        · simp; omega
      clear hc
      generalize xs[k] = y at c0 c1 c2 c3 hT
      obtain ⟨lo, hi, g, e⟩ := y
      dsimp only at c0 c1 c2 c3 hT
      generalize (xs.map Shr.sp).take k = acc at H hT
      have hacc : Hid (acc.length = k) := hT.out.2
      obtain ⟨W1, hW1⟩ : ∃ W1, W1 = wr.alloc (.cells #[.string lo, .string hi, .int .i64 g, .int .i64 e] 41) := ⟨_, rfl⟩
      have F1 : Fr Nix wr W1 := by rw [hW1]; exact (Fr.refl _ _).alloc _
      have RX : Hid (RdR (W1.alloc (.cells #[.string lo, .string hi] 29)) (.slice (some ⟨W1.heap.size, 0, none⟩) 1 1) [⟨lo, hi⟩]) := rdR_blk (xs := [⟨lo, hi⟩]) (Blk.new W1 [.string lo, .string hi] _) (by simp)
      have FR : Hid (Fr Nix wr (W1.alloc (.cells #[.string lo, .string hi] 29))) := F1.alloc _
      rw [hW1] at RX FR
      clear F1 hW1
      rw [World.size_alloc] at RX
      go_wp2_with (at_builtin; refine wp_append rfl _ _ 76 rfl 29 i0 _ 2 32 Try.underlying76 hi0 hz0 hz1 hz2 rfl (by decide) _ acc.length (cellsR acc) rfl ?c1 _ rfl 1 (cellsR [⟨lo, hi⟩]) ?c2 ?c3 ?c4 ?c5)
      case c1 => exact H.out.1.mono FR.out (fun _ _ h => h)
      case c2 => exact RX.out.src
      case c3 => rw [hacc.out]; simp only [maxLen]; omega
      case c4 => rw [hacc.out]; omega
      case c5 =>
        intro v' w' ho' hf hat
        have hs := H.out.2.2.size
        have N : Hid (OwnS w' v' ((xs.map Shr.sp).take (k + 1)) ∧ New w v' ∧ Fr Nix w w') := by
          refine ⟨?_, fun i hi' => ?_, (H.out.2.2.nix FR.out).then hf (fun i hi' e => by have := H.out.2.1 i e; omega)⟩
          · rw [hT.out.1]
            show w'.ownsRow _ _ _ _ _ _
            rw [List.length_append, cellsR_append]
            exact ho'
          · rcases hat with e | e
            · rw [e] at hi'; exact H.out.2.1 i hi'
            · rw [e] at hi'; cases hi'; omega
        clear ho' hf hat
        obtain ⟨A6, L6, c6, rfl⟩ := N.out.1.form
        go_wp2_with fail
        go_roundg (xs.length - (k + 1))
        case measure => omega
        case rel => exact ⟨k + 1, A6, L6, c6, by omega, by omega, by go_num, rfl, N.out⟩
    · obtain rfl : k = xs.length := by omega
      go_wp2
      go_ret
      exact ⟨_, rfl, by have := H.out.1; rwa [List.take_of_length_le (by simp)] at this, H.out.2.1, H.out.2.2⟩

set_option maxRecDepth 100000 in
set_option maxHeartbeats 4000000 in
/-- Do spans part all keys? -/
theorem parts_any (w : World) (v : Value) (xs : List Rw) (hr : RdR w v xs) :
    Calls Try.prog 65 #[v] w fun e w' => e = .returned (.bool (partsB xs)) ∧ Fr Nix w w' := by
  obtain ⟨hm, A, cap, rfl, hr⟩ := hr
  have HR := Lib.hid hr
  clear hr
  go_enter Try.func65, Try.ntmps65
  go_wp2_with fail
  go_loopg [3, 4, 9] xs.length (fun gg s3 s4 s9 wr => ∃ (k : Nat) (a : ByteArray) (op : Bool), k ≤ xs.length ∧ xs.length - k ≤ gg ∧ s9 = .int .i64 k ∧ s3 = .string a ∧ s4 = .bool op ∧ Hid (partsB xs = partsF a op (xs.drop k) ∧ Fr Nix w wr))
  case atStart => exact ⟨0, ⟨#[]⟩, false, Nat.zero_le _, by omega, rfl, rfl, rfl, rfl, Fr.refl _ _⟩
  case round =>
    obtain ⟨k, a, op, hk, hg, rfl, rfl, rfl, H⟩ := hrel
    by_cases hlt : k < xs.length
    · have hlti : (k : Int) < (xs.length : Int) := by omega
      rcases HR.out with h0 | ⟨b, off, rfl, hb, hc⟩
      · rw [h0] at hlt; cases hlt
      have c0 := H.out.2.cell' (hc k hlt).1
      have c1 := H.out.2.cell' (hc k hlt).2
      have HE : Hid (partsB xs = (rightB xs[k].k xs[k].v && decide (xs[k].k = a) && !op && (!noneB xs[k].v || decide (xs.drop (k + 1) = [])) && partsF xs[k].v (noneB xs[k].v) (xs.drop (k + 1)))) := by
        show _ = _
        rw [H.out.1, List.drop_eq_getElem_cons hlt, partsF]
      have hd : decide (xs.drop (k + 1) = []) = decide (k + 1 = xs.length) := by
        rw [Bool.eq_iff_iff, decide_eq_true_eq, decide_eq_true_eq, List.drop_eq_nil_iff]
        omega
      rw [hd] at HE
      clear hc hd
      generalize xs[k] = y at c0 c1 HE
      obtain ⟨lo, hi⟩ := y
      dsimp only at c0 c1 HE
      have e1 := empty_iff hi
      have hq := toList_inj lo a
      have HC := fun W => Lib.hid (right_any lo hi W)
      have F0 : Hid (Fr Nix w (wr.alloc (.cells #[.string lo, .string hi] 29))) := H.out.2.alloc _
      have d0 : ∀ W, Fr Nix (wr.alloc (.cells #[.string lo, .string hi] 29)) W → W.cell? ⟨wr.heap.size, 0, none⟩ = some (.string lo) ∧ W.cell? ⟨wr.heap.size, 1, none⟩ = some (.string hi) := fun W h => ⟨h.cell' (by go_simp), h.cell' (by go_simp)⟩
      have D := Lib.hid d0
      clear d0
      cases hr : rightB lo hi with
      | false =>
        have HF : Hid (partsB xs = false) := by show _ = _; rw [HE.out, hr]; rfl
        clear hq e1
        go_wp2_with fail
        refine (HC _).out.mono ?_
        rintro e w1 ⟨rfl, h1⟩
        rw [hr]
        go_wp2_with fail
        go_ret
        exact ⟨ret_bool HF.out.symm, F0.out.nix h1⟩
      | true =>
        have HRR := Lib.hid hr
        clear hr
        by_cases hka : lo = a
        · rw [decide_eq_true hka] at hq
          have HKA := Lib.hid hka
          clear hka
          cases op with
          | true =>
            have HF : Hid (partsB xs = false) := by show _ = _; rw [HE.out]; simp
            clear e1
            go_wp2_with fail
            refine (HC _).out.mono ?_
            rintro e w1 ⟨rfl, h1⟩
            obtain ⟨d0, d1⟩ := D.out w1 h1
            rw [HRR.out]
            go_wp2_with fail
            go_ret
            exact ⟨ret_bool HF.out.symm, F0.out.nix h1⟩
          | false =>
            cases hn : noneB hi with
            | false =>
              rw [hn] at e1
              have HF : Hid (partsB xs = partsF hi false (xs.drop (k + 1))) := by show _ = _; rw [HE.out, HRR.out, HKA.out, hn]; simp
              clear hn
              go_wp2_with fail
              refine (HC _).out.mono ?_
              rintro e w1 ⟨rfl, h1⟩
              obtain ⟨d0, d1⟩ := D.out w1 h1
              have F1 : Hid (Fr Nix w w1) := F0.out.nix h1
              clear h1
              rw [HRR.out]
              go_wp2_with fail
              go_quiet (fail)
              go_wp2_with fail
              go_roundg (xs.length - (k + 1))
              case measure => omega
              case rel => exact ⟨k + 1, hi, false, by omega, by omega, by go_num, rfl, rfl, HF.out, F1.out.drewN _⟩
            | true =>
              rw [hn] at e1
              by_cases hl : k + 1 = xs.length
              · have hli : ¬ (k : Int) < (xs.length : Int) - 1 := by omega
                have HF : Hid (partsB xs = partsF hi true (xs.drop (k + 1))) := by show _ = _; rw [HE.out, HRR.out, HKA.out, hn]; simp [hl]
                have HL := Lib.hid hl
                clear hn hl
                go_wp2_with fail
                refine (HC _).out.mono ?_
                rintro e w1 ⟨rfl, h1⟩
                obtain ⟨d0, d1⟩ := D.out w1 h1
                have F1 : Hid (Fr Nix w w1) := F0.out.nix h1
                clear h1
                rw [HRR.out]
                go_wp2_with fail
                go_quiet (fail)
                go_wp2_with fail
                go_roundg (xs.length - (k + 1))
                case measure => omega
                case rel => exact ⟨k + 1, hi, true, by omega, by omega, by go_num, rfl, rfl, HF.out, F1.out.drewN _⟩
              · have hli : (k : Int) < (xs.length : Int) - 1 := by omega
                have HF : Hid (partsB xs = false) := by show _ = _; rw [HE.out, hn]; simp [hl]
                clear hn hl
                go_wp2_with fail
                refine (HC _).out.mono ?_
                rintro e w1 ⟨rfl, h1⟩
                obtain ⟨d0, d1⟩ := D.out w1 h1
                rw [HRR.out]
                go_wp2_with fail
                go_ret
                exact ⟨ret_bool HF.out.symm, F0.out.nix h1⟩
        · have HF : Hid (partsB xs = false) := by show _ = _; rw [HE.out, decide_eq_false hka]; simp
          rw [decide_eq_false hka] at hq
          clear e1 hka
          go_wp2_with fail
          refine (HC _).out.mono ?_
          rintro e w1 ⟨rfl, h1⟩
          obtain ⟨d0, d1⟩ := D.out w1 h1
          rw [HRR.out]
          go_wp2_with fail
          go_ret
          exact ⟨ret_bool HF.out.symm, F0.out.nix h1⟩
    · obtain rfl : k = xs.length := by omega
      go_wp2
      go_ret
      exact ⟨ret_bool (by rw [H.out.1, List.drop_length]; rfl), H.out.2⟩
end Go.Proofs.Ytpggnelngfpfgaa
