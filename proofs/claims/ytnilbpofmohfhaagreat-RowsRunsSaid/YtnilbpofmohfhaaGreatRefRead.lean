/- The document's rows read of bytes. -/
import Derived.Test.YtnilbpofmohfhaaGreatRefRd
import Derived.Test.YtnilbpofmohfhaaGreatRefKey
import Derived.Test.YtnilbpofmohfhaaGreatReadE
namespace Go.Proofs.YtnilbpofmohfhaaGreat
open Go.RowKit

theorem StepF.mono {F : Nat → Prop} {w w1 w2 : World} {b : Nat} {bad : Bool} {r : List UInt8} (h : StepF w w1 b bad r) (hf : Fr F w1 w2) (hF : ∀ k, F k → w.heap.size ≤ k) (hfl : ∀ k, FootRf w b k → k < w.heap.size) : StepF w w2 b bad r := by
  have hne : ∀ k, FootRf w1 b k → ¬ F k := fun k hk e => by
    have := hfl k (h.2.2 k hk)
    have := hF k e
    omega
  exact ⟨h.1.mono hf hne, h.2.1.then hf (fun i hi e => by have := hF i e; omega), fun k hk => h.2.2 k ((FootRf.same h.1 hf (hne b (.inl rfl))).1 hk)⟩

set_option maxRecDepth 100000 in
set_option maxHeartbeats 4000000 in
theorem refRead_any (w : World) (b : Nat) (xs : List UInt8) (h : IsRf w b false xs) (hB : xs.length ≤ 1000000000) :
    Calls Tryz.prog 41 #[.pointer (some ⟨b, 0, none⟩)] w fun e w' => ∃ v, e = .returned (.tuple #[v, .bool (readRows xs).1.isSome]) ∧ RdR w' v (rowsOf (readRows xs).1) ∧ Fr (fun k => k = b) w w' ∧ New w v ∧
      ((readRows xs).1.isSome = true → StepF w w' b (readRows xs).2.1 (readRows xs).2.2) := by
  obtain ⟨i0, hi, hz0, hz1, hz2⟩ := info_parts infoRow
  obtain ⟨O, hO⟩ : ∃ O, O = readRows xs := ⟨_, rfl⟩
  have HO : Hid (O = readRows xs) := hO
  rw [← hO]
  clear hO
  unfold readRows at HO
  have hm := numR_most 400 xs
  have hle := (numR_le 400 false xs).2
  have hbad0 : (numR 400 false xs).2.1 = true → (numR 400 false xs).1 = 0 := by
    intro h
    have e : numR 400 false xs = numM 400 (getV 0 0 xs) := rfl
    rw [e] at h ⊢
    cases hg : getV 0 0 xs with
    | none => rfl
    | some q =>
      obtain ⟨n, r⟩ := q
      rw [hg] at h
      rw [numM] at h ⊢
      split at h
      · rename_i hc; rw [if_pos hc]
      · cases h
  have HFL : Hid (∀ k, FootRf w b k → k < w.heap.size) := fun k hk => h.flt hk
  have hbl := h.lt
  have HN := Lib.hid (numF_any w b false xs 400 h (by decide))
  generalize numR 400 false xs = Q at HO hm hle HN hbad0
  obtain ⟨n, bd, rest⟩ := Q
  dsimp only at HO hm hle HN hbad0
  clear h
  go_enter Tryz.func41, Tryz.ntmps41
  go_wp2_with fail
  refine HN.out.mono ?_
  rintro e w1 ⟨rfl, h1⟩
  have S1 := Lib.hid h1
  clear h1 HN
  cases bd with
  | true =>
    obtain rfl := hbad0 rfl
    have HO2 : Hid (O = (none, true, rest)) := HO.out
    have c1 := bad_sameF S1.out.1
    clear HO hbad0
    go_wp2_with fail
    go_loopg [5, 6] 0 (fun gg s5 s6 wr => s5 = .slice none 0 0 ∧ s6 = .int .i64 0 ∧ Hid (wr = w1))
    case atStart => exact ⟨rfl, rfl, rfl⟩
    case round =>
      obtain ⟨rfl, rfl, hw⟩ := hrel
      have hw' := hw.out
      subst hw'
      go_wp2_with fail
      go_ret2
      rw [HO2.out]
      exact ⟨_, rfl, ⟨by simp [rowsOf], none, 0, rfl, .inl rfl⟩, S1.out.2.1, (fun k hk => by cases hk), fun h => by cases h⟩
  | false =>
    have HO2 : Hid (O = loopR n [] false rest) := HO.out
    clear HO hbad0
    go_wp2_with fail
    go_loopg [5, 6] n (fun gg s5 s6 wr => ∃ (k : Nat) (A : Option Addr) (L cap : Nat), k ≤ n ∧ n - k ≤ gg ∧ L = k ∧ s6 = .int .i64 k ∧ s5 = .slice A L cap ∧ Hid (∃ acc rest, acc.length = k ∧ OwnR wr s5 acc ∧ New w s5 ∧ StepF w wr b false rest ∧ rest.length ≤ 1000000000 ∧ O = loopR (n - k) acc false rest))
    case atStart => exact ⟨0, none, 0, 0, by omega, by omega, rfl, rfl, rfl, [], rest, rfl, World.ownsRow_nil _ _ _ _, (fun k hk => by cases hk), S1.out, by omega, HO2.out⟩
    case round =>
      clear HO2
      obtain ⟨k, A, L, cap, hk, hg, hL, rfl, rfl, H⟩ := hrel
      obtain ⟨acc, rest, hal, ho, hnew, hst, hrl, hO⟩ := H.out
      by_cases hlt : k < n
      · have HT1 := Lib.hid (rowF_any wr b false rest 20 hst.1 (by decide) hrl (fun k hk => hst.1.flt hk))
        obtain ⟨m, hm⟩ : ∃ m, n - k = m + 1 := ⟨n - k - 1, by omega⟩
        rw [hm, loopR] at hO
        have HO2 := Lib.hid hO
        have hol := rowRd_le 20 false rest
        unfold oneR at HO2
        generalize rowRd 20 false rest = Q1 at HT1 HO2 hol
        obtain ⟨q1, bd1, r1⟩ := Q1
        dsimp only at HT1 HO2 hol
        have hol2 := rowRd_le 20 bd1 r1
        have HT2 := fun W h1 h2 => Lib.hid (rowF_any W b bd1 r1 20 h1 (by decide) (by omega) h2)
        generalize rowRd 20 bd1 r1 = Q2 at HT2 HO2 hol2
        obtain ⟨q2, bd2, r2⟩ := Q2
        dsimp only at HT2 HO2 hol2
        have HOW := Lib.hid ho
        have HNW := Lib.hid hnew
        have HST := Lib.hid hst
        have HAL := Lib.hid hal
        have HM := Lib.hid hm
        have HLK := Lib.hid hL
        clear H ho hnew hst hO hal hm hL
        have hgb : Hid (∀ i, (Value.slice A L cap).ownBlock = some i → i ≠ b) := fun i hi => by have := HNW.out i hi; omega
        go_wp2_with fail
        refine HT1.out.mono ?_
        rintro e w2 ⟨v2, rfl, h1, h2, h3⟩
        have hcv := back_any w2 v2 q1 h1
        have S2 := Lib.hid (HST.out.trans h3)
        have O2 : Hid (OwnR w2 (.slice A L cap) acc) := HOW.out.mono h3.2.1 hgb.out
        have HT2' := HT2 w2 S2.out.1 (fun k hk => S2.out.1.flt hk)
        obtain ⟨A2, n2, c2, e2⟩ := h1.form'
        subst e2
        clear h1 h2 h3 HT1 HT2
        go_wp2_with fail
        refine HT2'.out.mono ?_
        rintro e w3 ⟨v3, rfl, h1, h2, h3⟩
        have hcv2 := back_any w3 v3 q2 h1
        have S3 := Lib.hid (S2.out.trans h3)
        have O3 : Hid (OwnR w3 (.slice A L cap) acc) := O2.out.mono h3.2.1 hgb.out
        obtain ⟨A3, n3, c3, e3⟩ := h1.form'
        subst e3
        clear h1 h2 h3 HT2' hcv O2
        have b1 := bad_sameF S3.out.1
        have hbl3 := ups S3.out.1.lt
        have hz := S3.out.2.1.size
        obtain ⟨xk, hxk⟩ : ∃ xk : ByteArray, xk = ⟨q1.toArray⟩ := ⟨_, rfl⟩
        obtain ⟨xv, hxv⟩ : ∃ xv : ByteArray, xv = ⟨q2.toArray⟩ := ⟨_, rfl⟩
        rw [← hxk] at HO2 ⊢
        rw [← hxv] at HO2 hcv2
        clear hxk hxv
        cases bd2 with
        | true =>
          have HO3 : Hid (O = (none, true, r2)) := Lib.hid (by have := HO2.out; simpa using this)
          clear HO2
          go_wp2_with fail
          go_ret2
          rw [HO3.out]
          exact ⟨_, rfl, ⟨by simp [rowsOf], none, 0, rfl, .inl rfl⟩, (S3.out.nix ((Fr.refl _ _).alloc _)).2.1, (fun k hk => by cases hk), fun h => by cases h⟩
        | false =>
          obtain ⟨ok, hok⟩ : ∃ ok, ok = rwB ⟨xk, xv⟩ := ⟨_, rfl⟩
          have HRW : ∀ W, Hid (Calls Tryz.prog 47 #[.agg #[.string xk, .string xv]] W fun e w' => e = .returned (.bool ok) ∧ Fr Nix W w') := fun W => by have := refRowRight_any ⟨xk, xv⟩ W; rw [← hok] at this; exact this
          rw [← hok] at HO2
          clear hok
          go_wp2_with fail
          refine (HRW _).out.mono ?_
          rintro e w4 ⟨rfl, h4⟩
          have S4 : Hid (StepF w w4 b false r2) := (S3.out.nix ((Fr.refl _ _).alloc _)).nix h4
          have O4 : Hid (OwnR w4 (.slice A L cap) acc) := (O3.out.mono ((Fr.refl Nix _).alloc _) (fun _ _ h => h)).mono h4 (fun _ _ h => h)
          have B4 : Hid (Blk w4 w3.heap.size [.string xk, .string xv] 48) := (Blk.new w3 [.string xk, .string xv] _).mono h4 (fun h => h)
          have e0 : w4.cell? ⟨w3.heap.size, 0, none⟩ = some (.string xk) := B4.out.cell 0
          have e1 : w4.cell? ⟨w3.heap.size, 1, none⟩ = some (.string xv) := B4.out.cell 1
          clear h4 HRW O3
          cases ok with
          | false =>
            have HO3 : Hid (O = (none, false, r2)) := Lib.hid (by have := HO2.out; simpa using this)
            clear HO2
            go_wp2_with fail
            go_ret2
            rw [HO3.out]
            exact ⟨_, rfl, ⟨by simp [rowsOf], none, 0, rfl, .inl rfl⟩, S4.out.2.1, (fun k hk => by cases hk), fun h => by cases h⟩
          | true =>
            have HO3 : Hid (O = if fitsR acc ⟨xk, xv⟩ then loopR m (acc ++ [⟨xk, xv⟩]) false r2 else (none, false, r2)) := HO2.out
            clear HO2
            by_cases hk0 : k = 0
            · subst hk0
              have : acc = [] := List.eq_nil_of_length_eq_zero HAL.out
              subst this
              have HO4 : Hid (O = loopR m [⟨xk, xv⟩] false r2) := HO3.out
              have hL0 : L = 0 := HLK.out
              subst hL0
              clear HO3
              go_wp2_with (at_builtin; refine wp_append rfl _ _ 29 rfl 48 i0 _ 2 32 Tryz.underlying29 hi hz0 hz1 hz2 rfl (by decide) _ ([] : List Rw).length (cellsR ([] : List Rw)) rfl ?c1 _ rfl 1 (cellsR [⟨xk, xv⟩]) ?c2 ?c3 ?c4 ?c5)
              case c1 => exact O4.out.mono ((Fr.refl Nix _).alloc _) (fun _ _ h => h)
              case c2 => exact (rd_one w4 ⟨xk, xv⟩).src
              case c3 => have := HAL.out; simp only [maxLen]; omega
              case c4 => have := HAL.out; omega
              case c5 =>
                intro v' w' ho' hf hat
                have N : Hid (OwnR w' v' (([] : List Rw) ++ [⟨xk, xv⟩])) := by
                  show w'.ownsRow _ _ _ _ _ _
                  rw [List.length_append, cellsR_append]
                  exact ho'
                have S5 : Hid (StepF w w' b false r2) := (S4.out.nix ((Fr.refl Nix w4).alloc (.cells #[.string xk, .string xv] 48))).mono hf (fun i h => HNW.out i h) HFL.out
                have NN : Hid (New w v') := fun i hi => by
                  rcases hat with e | e
                  · rw [e] at hi; exact HNW.out i hi
                  · rw [e] at hi
                    cases hi
                    have := S4.out.2.1.size
                    simp
                    omega
                clear ho' hf hat
                obtain ⟨A2, n2, c2, e2⟩ : ∃ A n c, v' = .slice A n c := N.out.form
                subst e2
                have hn2 : Hid (n2 = (([] : List Rw) ++ [(⟨xk, xv⟩ : Rw)]).length) := by obtain ⟨_, A', c', e, _⟩ := N.out.rd; cases e; rfl
                have hm2 : Hid (m = n - (0 + 1)) := by have := HM.out; show _ = _; omega
                go_wp2_with fail
                go_roundg (n - (0 + 1))
                case measure => omega
                case rel => exact ⟨0 + 1, _, n2, _, by omega, by omega, by have h1 := hn2.out; rw [List.length_append, HAL.out] at h1; exact h1, by go_num, rfl, _, r2, by rw [List.length_append, HAL.out]; rfl, N.out, NN.out, S5.out, by omega, by first | (rw [HO4.out, hm2.out]; rfl) | rw [HO4.out, hm2.out]⟩
            · obtain ⟨j, hj⟩ : ∃ j, j + 1 = k := ⟨k - 1, by omega⟩
              have hjl : j < acc.length := by have := HAL.out; omega
              obtain ⟨z, hzz⟩ : ∃ z, z = acc[j] := ⟨_, rfl⟩
              have HFT : Hid (fitsR acc ⟨xk, xv⟩ = ltB z.k xk) := by
                show _ = _
                unfold fitsR
                rw [List.getLast?_eq_getElem?, show acc.length - 1 = j by have := HAL.out; omega, List.getElem?_eq_getElem hjl, hzz]
              obtain ⟨_, A', c', e, hr⟩ := O4.out.rd
              rcases hr with h0 | ⟨g, off, e2, hgl, hcc⟩
              · rw [h0] at hjl; cases hjl
              subst e2
              cases e
              have z0 := (hcc j hjl).1
              rw [← hzz] at z0
              have hcmp := less_iff z.k xk
              have hL2 : (k : Int) - 1 = (j : Int) := by omega
              have hj2 : (0 : Int) < (k : Int) := by omega
              have hj3 : (j : Int) < (acc.length : Int) := by omega
              have hj4 : IntKind.i64.wrap ((j : Nat) : Int) = (j : Int) := IntWalk.i64_in _ (by omega)
              have hj5 : 0 < k := by omega
              have HJ := Lib.hid hj
              have HZ := Lib.hid hzz
              clear hcc hj hzz hk0
              cases hft : ltB z.k xk with
              | false =>
                rw [hft] at hcmp HFT
                have HO4 : Hid (O = (none, false, r2)) := by show _ = _; rw [HO3.out, HFT.out]; rfl
                clear HO3 hft
                go_wp2_with fail
                go_ret2
                rw [HO4.out]
                exact ⟨_, rfl, ⟨by simp [rowsOf], none, 0, rfl, .inl rfl⟩, S4.out.2.1, (fun k hk => by cases hk), fun h => by cases h⟩
              | true =>
                rw [hft] at hcmp HFT
                have HO4 : Hid (O = loopR m (acc ++ [⟨xk, xv⟩]) false r2) := by show _ = _; rw [HO3.out, HFT.out]; rfl
                clear HO3 hft
                go_wp2_with (at_builtin; refine wp_append rfl _ _ 29 rfl 48 i0 _ 2 32 Tryz.underlying29 hi hz0 hz1 hz2 rfl (by decide) _ acc.length (cellsR acc) rfl ?c1 _ rfl 1 (cellsR [⟨xk, xv⟩]) ?c2 ?c3 ?c4 ?c5)
                case c1 => exact O4.out.mono ((Fr.refl Nix _).alloc _) (fun _ _ h => h)
                case c2 => exact (rd_one w4 ⟨xk, xv⟩).src
                case c3 => have := HAL.out; simp only [maxLen]; omega
                case c4 => have := HAL.out; omega
                case c5 =>
                  intro v' w' ho' hf hat
                  have N : Hid (OwnR w' v' (acc ++ [⟨xk, xv⟩])) := by
                    show w'.ownsRow _ _ _ _ _ _
                    rw [List.length_append, cellsR_append]
                    exact ho'
                  have S5 : Hid (StepF w w' b false r2) := (S4.out.nix ((Fr.refl Nix w4).alloc (.cells #[.string xk, .string xv] 48))).mono hf (fun i h => HNW.out i h) HFL.out
                  have NN : Hid (New w v') := fun i hi => by
                    rcases hat with e | e
                    · rw [e] at hi; exact HNW.out i hi
                    · rw [e] at hi
                      cases hi
                      have := S4.out.2.1.size
                      simp
                      omega
                  clear ho' hf hat
                  obtain ⟨A2, n2, c2, e2⟩ : ∃ A n c, v' = .slice A n c := N.out.form
                  subst e2
                  have hn2 : Hid (n2 = (acc ++ [(⟨xk, xv⟩ : Rw)]).length) := by obtain ⟨_, A', c', e, _⟩ := N.out.rd; cases e; rfl
                  have hm2 : Hid (m = n - (k + 1)) := by have := HM.out; show _ = _; omega
                  go_wp2_with fail
                  go_roundg (n - (k + 1))
                  case measure => omega
                  case rel => exact ⟨k + 1, _, n2, _, by omega, by omega, by have h1 := hn2.out; rw [List.length_append, HAL.out] at h1; exact h1, by go_num, rfl, _, r2, by rw [List.length_append, HAL.out]; rfl, N.out, NN.out, S5.out, by omega, by first | (rw [HO4.out, hm2.out]; rfl) | rw [HO4.out, hm2.out]⟩
      · obtain rfl : k = n := by omega
        rw [Nat.sub_self, loopR] at hO
        have c1 := bad_sameF hst.1
        go_wp2_with fail
        go_ret2
        rw [hO]
        exact ⟨_, rfl, ho.rd, hst.2.1, hnew, fun _ => hst⟩
end Go.Proofs.YtnilbpofmohfhaaGreat
