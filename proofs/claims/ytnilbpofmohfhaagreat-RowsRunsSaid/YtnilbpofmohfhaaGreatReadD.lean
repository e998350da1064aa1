/- rows.Read: all rows. -/
import Derived.Test.YtnilbpofmohfhaaGreatReadC
namespace Go.Proofs.YtnilbpofmohfhaaGreat
open Go.RowKit

def fitsR (acc : List Rw) (x : Rw) : Bool := match acc.getLast? with | none => true | some z => ltB z.k x.k
def loopR : Nat → List Rw → Bool → List UInt8 → Option (List Rw) × Bool × List UInt8
  | 0, acc, bad, rest => (some acc, bad, rest)
  | n + 1, acc, bad, rest => if (!(oneR bad rest).2.1 && rwB (oneR bad rest).1) && fitsR acc (oneR bad rest).1 then loopR n (acc ++ [(oneR bad rest).1]) (oneR bad rest).2.1 (oneR bad rest).2.2 else (none, (oneR bad rest).2.1, (oneR bad rest).2.2)
def rowsOf (o : Option (List Rw)) : List Rw := match o with | none => [] | some xs => xs
theorem oneR_le (bad : Bool) (xs : List UInt8) : (oneR bad xs).2.2.length ≤ xs.length := Nat.le_trans (rowRd_le _ _ _) (rowRd_le _ _ _)
theorem eg48 : ∀ args w, (callFunc 87 args).run Tryz.prog w = .ok (.enter 87 args) w := fun _ _ => by kernel_rfl

theorem rd_one (w : World) (x : Rw) : RdR (w.alloc (.cells (cellsR [x]).toArray 48)) (.slice (some ⟨w.heap.size, 0, none⟩) 1 1) [x] :=
  (OwnR.of_blk (xs := [x]) (Blk.new w (cellsR [x]) 48) (Nat.le_refl _) (by simp only [maxLen]; simp) (cellsR_length [x]) (by rw [List.take_of_length_le (by rw [cellsR_length]; exact Nat.le_refl _)])).rd

set_option maxRecDepth 100000 in
set_option maxHeartbeats 4000000 in
theorem readL_any (w : World) (b c c5 n : Nat) (bad : Bool) (xs : List UInt8) (h : IsRd w b bad xs) (hB : xs.length ≤ 1000000000) (hn : n ≤ 1000) (hc : w.cell? ⟨c, 0, none⟩ = some (.pointer (some ⟨b, 0, none⟩))) (hcb : c ≠ b) (hcb5 : c5 ≠ b)
    (hf : w.cell? ⟨c5, 0, none⟩ = some (.func (.func 84) #[] #[.pointer (some ⟨c, 0, none⟩)])) :
    Calls Tryz.prog 86 #[.int .i64 n, .func (.func 87) #[] #[.pointer (some ⟨c, 0, none⟩), .pointer (some ⟨c5, 0, none⟩)]] w fun e w' => ∃ v, e = .returned (.tuple #[v, .bool (loopR n [] bad xs).1.isSome]) ∧ OwnR w' v (rowsOf (loopR n [] bad xs).1) ∧ New w v ∧
      StepR w w' b (loopR n [] bad xs).2.1 (loopR n [] bad xs).2.2 := by
  obtain ⟨i0, hi, hz0, hz1, hz2⟩ := info_parts infoRow
  obtain ⟨O, hO⟩ : ∃ O, O = loopR n [] bad xs := ⟨_, rfl⟩
  have HO : Hid (O = loopR n [] bad xs) := hO
  rw [← hO]
  clear hO
  have H0 := Lib.hid h
  have HC := Lib.hid hc
  have HF := Lib.hid hf
  have HFL : Hid (∀ k, FootRd w b k → k < w.heap.size) := fun k hk => h.flt hk
  have hbl := h.lt
  clear h hc hf
  have eg := eg48
  go_enter Tryz.func86, Tryz.ntmps86
  go_wp2_with fail
  go_loopg [6, 10] n (fun gg s6 s10 wr => ∃ (k : Nat) (A : Option Addr) (L cap : Nat), k ≤ n ∧ n - k ≤ gg ∧ L = k ∧ s10 = .int .i64 k ∧ s6 = .slice A L cap ∧ Hid (∃ acc bd rest, acc.length = k ∧ OwnR wr s6 acc ∧ New w s6 ∧ StepR w wr b bd rest ∧ rest.length ≤ 1000000000 ∧ O = loopR (n - k) acc bd rest))
  case atStart => exact ⟨0, none, 0, 0, by omega, by omega, rfl, rfl, rfl, [], bad, xs, rfl, World.ownsRow_nil _ _ _ _, (fun k hk => by cases hk), StepR.refl H0.out, hB, HO.out⟩
  case round =>
    obtain ⟨k, A, L, cap, hk, hg, hL, rfl, rfl, H⟩ := hrel
    obtain ⟨acc, bd, rest, hal, ho, hnew, hst, hrl, hO⟩ := H.out
    by_cases hlt : k < n
    · have HR2 := Lib.hid (read2_any wr b c c5 bd rest hst.1 hrl ((hst.2.1.cell (p := ⟨c, 0, none⟩) (World.block_lt_of_cell? w _ HC.out) hcb).trans HC.out) hcb hcb5 ((hst.2.1.cell (p := ⟨c5, 0, none⟩) (World.block_lt_of_cell? w _ HF.out) hcb5).trans HF.out))
      have hol := oneR_le bd rest
      obtain ⟨m, hm⟩ : ∃ m, n - k = m + 1 := ⟨n - k - 1, by omega⟩
      rw [hm, loopR] at hO
      obtain ⟨o, ho1⟩ : ∃ o, o = oneR bd rest := ⟨_, rfl⟩
      rw [← ho1] at HR2 hol hO
      obtain ⟨x, bd2, rest2⟩ := o
      dsimp only at HR2 hol hO
      have HO2 := Lib.hid hO
      have HOW := Lib.hid ho
      have HNW := Lib.hid hnew
      have HST := Lib.hid hst
      have HAL := Lib.hid hal
      clear H ho hnew hst hO ho1 hal
      have HM := Lib.hid hm
      clear hm
      obtain ⟨xk, xv⟩ := x
      obtain ⟨ok, hok⟩ : ∃ ok, ok = (!bd2 && rwB ⟨xk, xv⟩) := ⟨_, rfl⟩
      rw [← hok] at HR2 HO2
      have hgb : Hid (∀ i, (Value.slice A L cap).ownBlock = some i → i ≠ b) := fun i hi => by have := HNW.out i hi; omega
      clear hok
      go_wp2_with fail
      refine HR2.out.mono ?_
      rintro e w1 ⟨rfl, h1⟩
      have S1 : Hid (StepR w w1 b bd2 rest2) := HST.out.trans h1
      have O1 : Hid (OwnR w1 (.slice A L cap) acc) := HOW.out.mono h1.2.1 hgb.out
      clear h1 HR2
      have hz := S1.out.2.1.size
      cases ok with
      | false =>
        have HO3 : Hid (O = (none, bd2, rest2)) := HO2.out
        clear HO2
        unfold Rw.val
        go_wp2_with fail
        go_region
        go_wp2_with fail
        go_ret2
        rw [HO3.out]
        exact ⟨_, rfl, World.ownsRow_nil _ _ _ _, (fun k hk => by cases hk), S1.out.nix ((Fr.refl _ _).alloc _ |>.drew)⟩
      | true =>
        have HO3 : Hid (O = if fitsR acc ⟨xk, xv⟩ then loopR m (acc ++ [⟨xk, xv⟩]) bd2 rest2 else (none, bd2, rest2)) := HO2.out
        clear HO2
        unfold Rw.val
        have KEY : Hid (fitsR acc ⟨xk, xv⟩ = true → True) := fun _ => trivial
        by_cases hk0 : k = 0
        · subst hk0
          have : acc = [] := List.eq_nil_of_length_eq_zero HAL.out
          subst this
          have HO4 : Hid (O = loopR m [⟨xk, xv⟩] bd2 rest2) := HO3.out
          subst hL
          clear HO3
          go_wp2_with fail
          go_region
          go_wp2_with (at_builtin; refine wp_append rfl _ _ 29 rfl 48 i0 _ 2 32 Tryz.underlying29 hi hz0 hz1 hz2 rfl (by decide) _ ([] : List Rw).length (cellsR ([] : List Rw)) rfl ?c1 _ rfl 1 (cellsR [⟨xk, xv⟩]) ?c2 ?c3 ?c4 ?c5)
          case c1 => exact O1.out.mono ((((Fr.refl Nix _).alloc _).drew).alloc _) (fun _ _ h => h)
          case c2 =>
            have h := (rd_one (w1.alloc (.cells #[.string xk, .string xv] 48)).drew ⟨xk, xv⟩).src
            have e : (w1.alloc (.cells #[.string xk, .string xv] 48)).drew.heap.size = w1.heap.size + 1 := World.size_alloc _ _
            rw [e] at h
            exact h
          case c3 => have := HAL.out; simp only [maxLen]; omega
          case c4 => have := HAL.out; omega
          case c5 =>
            intro v' w' ho' hf hat
            have N : Hid (OwnR w' v' (([] : List Rw) ++ [⟨xk, xv⟩])) := by
              show w'.ownsRow _ _ _ _ _ _
              rw [List.length_append, cellsR_append]
              exact ho'
            have S5 : Hid (StepR w w' b bd2 rest2) := by
              have h1 := S1.out.nix ((((Fr.refl Nix w1).alloc (.cells #[.string xk, .string xv] 48)).drew).alloc (.cells #[.string xk, .string xv] 48))
              refine ⟨h1.1.mono hf (fun i hi h => ?_), h1.2.1.then hf (fun i hi h => ?_), fun i hi => h1.2.2 i ((FootRd.same h1.1 hf (fun h => hgb.out b h rfl)).1 hi)⟩
              · have := HFL.out i (h1.2.2 i hi)
                have := HNW.out i h
                omega
              · have := HNW.out i h
                omega
            have NN : Hid (New w v') := fun i hi => by
              rcases hat with e | e
              · rw [e] at hi; exact HNW.out i hi
              · rw [e] at hi
                cases hi
                have := S1.out.2.1.size
                simp
                omega
            clear ho' hf hat
            obtain ⟨A2, n2, c2, e2⟩ : ∃ A n c, v' = .slice A n c := N.out.form
            subst e2
            have hn2 : Hid (n2 = (([] : List Rw) ++ [(⟨xk, xv⟩ : Rw)]).length) := by obtain ⟨_, A', c', e, _⟩ := N.out.rd; cases e; rfl
            have hm2 : Hid (m = n - (0 + 1)) := by have := HM.out; show _ = _; omega
            go_wp2_with fail
            go_roundg (n - (0 + 1))
            case measure => omega
            case rel => exact ⟨0 + 1, _, n2, _, by omega, by omega, by have h1 := hn2.out; rw [List.length_append, HAL.out] at h1; exact h1, by go_num, rfl, _, bd2, rest2, by rw [List.length_append, HAL.out]; rfl, N.out, NN.out, S5.out, by omega, by first | (rw [HO4.out, hm2.out]; rfl) | rw [HO4.out, hm2.out]⟩
        · obtain ⟨j, hj⟩ : ∃ j, j + 1 = k := ⟨k - 1, by omega⟩
          have hjl : j < acc.length := by have := HAL.out; omega
          obtain ⟨z, hzz⟩ : ∃ z, z = acc[j] := ⟨_, rfl⟩
          have HFT : Hid (fitsR acc ⟨xk, xv⟩ = ltB z.k xk) := by
            show _ = _
            unfold fitsR
            rw [List.getLast?_eq_getElem?, show acc.length - 1 = j by have := HAL.out; omega, List.getElem?_eq_getElem hjl, hzz]
          obtain ⟨_, A', c', e, hr⟩ := O1.out.rd
          rcases hr with h0 | ⟨g, off, e2, hgl, hcc⟩
          · rw [h0] at hjl; cases hjl
          subst e2
          cases e
          have z0 := (hcc j hjl).1
          rw [← hzz] at z0
          have hcmp := less_iff z.k xk
          have hL2 : (acc.length : Int) - 1 = (j : Int) := by omega
          have hj2 : (0 : Int) < (acc.length : Int) := by omega
          have hj3 : (j : Int) < (acc.length : Int) := by omega
          have hj4 : IntKind.i64.wrap ((j : Nat) : Int) = (j : Int) := IntWalk.i64_in _ (by omega)
          have hj5 : 0 < acc.length := by omega
          have HJ := Lib.hid hj
          have HZ := Lib.hid hzz
          clear hcc hj hzz hk0 hL
          cases hft : ltB z.k xk with
          | false =>
            rw [hft] at hcmp HFT
            have HO4 : Hid (O = (none, bd2, rest2)) := by show _ = _; rw [HO3.out, HFT.out]; rfl
            clear HO3 hft
            go_wp2_with fail
            go_region
            go_wp2_with fail
            go_ret2
            rw [HO4.out]
            exact ⟨_, rfl, World.ownsRow_nil _ _ _ _, (fun k hk => by cases hk), S1.out.nix ((Fr.refl _ _).alloc _ |>.drew)⟩
          | true =>
            rw [hft] at hcmp HFT
            have HO4 : Hid (O = loopR m (acc ++ [⟨xk, xv⟩]) bd2 rest2) := by show _ = _; rw [HO3.out, HFT.out]; rfl
            clear HO3 hft
            go_wp2_with fail
            go_region
            go_wp2_with (at_builtin; refine wp_append rfl _ _ 29 rfl 48 i0 _ 2 32 Tryz.underlying29 hi hz0 hz1 hz2 rfl (by decide) _ acc.length (cellsR acc) rfl ?c1 _ rfl 1 (cellsR [⟨xk, xv⟩]) ?c2 ?c3 ?c4 ?c5)
            case c1 => exact O1.out.mono ((((Fr.refl Nix _).alloc _).drew).alloc _) (fun _ _ h => h)
            case c2 =>
              have h := (rd_one (w1.alloc (.cells #[.string xk, .string xv] 48)).drew ⟨xk, xv⟩).src
              have e : (w1.alloc (.cells #[.string xk, .string xv] 48)).drew.heap.size = w1.heap.size + 1 := World.size_alloc _ _
              rw [e] at h
              exact h
            case c3 => have := HAL.out; simp only [maxLen]; omega
            case c4 => have := HAL.out; omega
            case c5 =>
              intro v' w' ho' hf hat
              have N : Hid (OwnR w' v' (acc ++ [⟨xk, xv⟩])) := by
                show w'.ownsRow _ _ _ _ _ _
                rw [List.length_append, cellsR_append]
                exact ho'
              have S5 : Hid (StepR w w' b bd2 rest2) := by
                have h1 := S1.out.nix ((((Fr.refl Nix w1).alloc (.cells #[.string xk, .string xv] 48)).drew).alloc (.cells #[.string xk, .string xv] 48))
                refine ⟨h1.1.mono hf (fun i hi h => ?_), h1.2.1.then hf (fun i hi h => ?_), fun i hi => h1.2.2 i ((FootRd.same h1.1 hf (fun h => hgb.out b h rfl)).1 hi)⟩
                · have := HFL.out i (h1.2.2 i hi)
                  have := HNW.out i h
                  omega
                · have := HNW.out i h
                  omega
              have NN : Hid (New w v') := fun i hi => by
                rcases hat with e | e
                · rw [e] at hi; exact HNW.out i hi
                · rw [e] at hi
                  cases hi
                  have := S1.out.2.1.size
                  simp
                  omega
              clear ho' hf hat
              obtain ⟨A2, n2, c2, e2⟩ : ∃ A n c, v' = .slice A n c := N.out.form
              subst e2
              have hn2 : Hid (n2 = (acc ++ [(⟨xk, xv⟩ : Rw)]).length) := by obtain ⟨_, A', c', e, _⟩ := N.out.rd; cases e; rfl
              have hm2 : Hid (m = n - (k + 1)) := by have := HM.out; show _ = _; omega
              go_wp2_with fail
              go_roundg (n - (k + 1))
              case measure => omega
              case rel => exact ⟨k + 1, _, n2, _, by omega, by omega, by have h1 := hn2.out; rw [List.length_append, HAL.out] at h1; exact h1, by go_num, rfl, _, bd2, rest2, by rw [List.length_append, HAL.out]; rfl, N.out, NN.out, S5.out, by omega, by first | (rw [HO4.out, hm2.out]; rfl) | rw [HO4.out, hm2.out]⟩
    · obtain rfl : k = n := by omega
      rw [Nat.sub_self, loopR] at hO
      go_wp2_with fail
      go_ret2
      rw [hO]
      exact ⟨_, rfl, ho, hnew, hst⟩
end Go.Proofs.YtnilbpofmohfhaaGreat
