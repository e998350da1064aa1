/- RowsLast: the anchor, and the walk. -/
import Derived.Test.YtnilbpofmohfhaaRowsE
import Derived.Test.YtnilbpofmohfhaaKitR
import Derived.Test.YtnilbpofmohfhaaRowL
namespace Go.Proofs.Ytnilbpofmohfhaa
open Go.RowKit

theorem rd_lit (w : World) (xs : List Rw) (hl : xs.length ≤ 1000) : RdR (w.alloc (.cells (cellsR xs).toArray 32)) (.slice (some ⟨w.heap.size, 0, none⟩) xs.length xs.length) xs :=
  (OwnR.of_blk (Blk.new w (cellsR xs) 32) (Nat.le_refl _) (by simp only [maxLen]; omega) (cellsR_length xs) (by rw [List.take_of_length_le (by rw [cellsR_length]; exact Nat.le_refl _)])).rd
theorem same_self (xs : List Rw) : sameR xs xs = true := (sameR_iff xs xs).2 rfl

set_option maxHeartbeats 2000000 in
theorem awake_any (w : World) :
    Calls Try.prog 6 #[] w fun e w' => e = .returned (.bool true) ∧ Fr Nix w w' := by
  go_enter Try.func6, Try.ntmps6
  go_wp2_with fail
  refine (newT_any _).mono ?_
  rintro e w1 ⟨rfl, h1, h2, h3⟩
  have H1 := Lib.hid h1
  have H2 := Lib.hid h2
  have H3 := Lib.hid h3
  clear h1 h2 h3
  go_wp2_with fail
  have R0 := rd_lit w1 [⟨⟨#[98]⟩, ⟨#[49]⟩⟩, ⟨⟨#[97]⟩, ⟨#[50]⟩⟩, ⟨⟨#[98]⟩, ⟨#[51]⟩⟩] (by decide)
  refine (putT_any _ _ _ _ _ (H1.out.mono ((Fr.refl Nix _).alloc _) (fun _ _ h => h)) R0 (by decide)).mono ?_
  rintro e w2 ⟨rfl, h1, h2, h3⟩
  have e1 : putE [] [⟨⟨#[98]⟩, ⟨#[49]⟩⟩, ⟨⟨#[97]⟩, ⟨#[50]⟩⟩, ⟨⟨#[98]⟩, ⟨#[51]⟩⟩] = 0 := by kernel_rfl
  have e2 : putT [] [⟨⟨#[98]⟩, ⟨#[49]⟩⟩, ⟨⟨#[97]⟩, ⟨#[50]⟩⟩, ⟨⟨#[98]⟩, ⟨#[51]⟩⟩] = [⟨⟨#[97]⟩, ⟨#[50]⟩⟩, ⟨⟨#[98]⟩, ⟨#[51]⟩⟩] := by kernel_rfl
  rw [e1]
  rw [e2] at h1
  have hs0 := H2.out.size
  have F2 : Hid (Fr Nix w w2) := (H2.out.alloc _).then h2 (fun i hi h => by omega)
  have T2 := Lib.hid h1
  have N2 : Hid (∀ k, FootT w2 w.heap.size k → w.heap.size ≤ k) := fun k hk => by
    rcases h3 k hk with h | h
    · exact H3.out k ((FootT.same H1.out ((Fr.refl Nix _).alloc _) (fun _ _ h => h)).1 h)
    · simp at h; omega
  clear h1 h2 h3 e1 e2 R0 H1 H2 H3
  go_wp2_with fail
  refine (in_any _ _ _ _ _ T2.out).mono ?_
  rintro e w3 ⟨v3, rfl, h1, h2, h3⟩
  have e1 : inR ⟨#[]⟩ ⟨#[]⟩ [⟨⟨#[97]⟩, ⟨#[50]⟩⟩, ⟨⟨#[98]⟩, ⟨#[51]⟩⟩] = [⟨⟨#[97]⟩, ⟨#[50]⟩⟩, ⟨⟨#[98]⟩, ⟨#[51]⟩⟩] := by kernel_rfl
  rw [e1] at h1
  have T3 := Lib.hid (T2.out.mono h3 (fun _ _ h => h))
  have N3 : Hid (∀ k, FootT w3 w.heap.size k → w.heap.size ≤ k ∧ k < w2.heap.size) := fun k hk => by
    have := (FootT.same T2.out h3 (fun _ _ h => h)).1 hk
    exact ⟨N2.out k this, T2.out.lt this⟩
  have R3 := Lib.hid h1.rd
  have O3 := Lib.hid h1
  have V3 := Lib.hid h2
  have F3 : Hid (Fr Nix w w3) := F2.out.nix h3
  clear h1 h2 h3 e1 T2 N2 F2
  obtain ⟨A3, c3, ev3⟩ : ∃ A c, v3 = .slice A 2 c := by obtain ⟨_, A, c, e, _⟩ := R3.out; exact ⟨A, c, e⟩
  subst ev3
  go_wp2_with fail
  refine (take_any _ _ _ _ _ T3.out).mono ?_
  rintro e w4 ⟨v4, rfl, h1, h2, h3, h4, h5⟩
  have e1 : inR ⟨#[97]⟩ ⟨#[98]⟩ [⟨⟨#[97]⟩, ⟨#[50]⟩⟩, ⟨⟨#[98]⟩, ⟨#[51]⟩⟩] = [⟨⟨#[97]⟩, ⟨#[50]⟩⟩] := by kernel_rfl
  have e2 : outR ⟨#[97]⟩ ⟨#[98]⟩ [⟨⟨#[97]⟩, ⟨#[50]⟩⟩, ⟨⟨#[98]⟩, ⟨#[51]⟩⟩] = [⟨⟨#[98]⟩, ⟨#[51]⟩⟩] := by kernel_rfl
  rw [e1] at h1
  rw [e2] at h3
  have R4 : Hid (RdR w4 (.slice A3 2 c3) [⟨⟨#[97]⟩, ⟨#[50]⟩⟩, ⟨⟨#[98]⟩, ⟨#[51]⟩⟩]) := (O3.out.mono h4 (fun k hk h => by
    have := V3.out k hk
    have := (N3.out k h).2
    omega)).rd
  have R4' := Lib.hid h1.rd
  have T4 := Lib.hid h3
  have F4 : Hid (Fr Nix w w4) := F3.out.then h4 (fun k hk h => by have := (N3.out k h).1; omega)
  clear h1 h2 h3 h4 h5 e1 e2 T3 N3 R3 O3 V3 F3
  obtain ⟨A4, c4, ev4⟩ : ∃ A c, v4 = .slice A 1 c := by obtain ⟨_, A, c, e, _⟩ := R4'.out; exact ⟨A, c, e⟩
  subst ev4
  go_wp2_with fail
  refine (sameLines_any _ _ _ _ _ (R4.out.nix ((Fr.refl _ _).alloc _)) (rd_lit w4 [⟨⟨#[97]⟩, ⟨#[50]⟩⟩, ⟨⟨#[98]⟩, ⟨#[51]⟩⟩] (by decide))).mono ?_
  rintro e w5 ⟨rfl, h1⟩
  rw [same_self]
  have F5 : Hid (Fr Nix w4 w5) := ((Fr.refl _ _).alloc _).nix h1
  clear h1
  go_wp2_with fail
  refine (sameLines_any _ _ _ _ _ (R4'.out.nix (F5.out.alloc _)) (rd_lit w5 [⟨⟨#[97]⟩, ⟨#[50]⟩⟩] (by decide))).mono ?_
  rintro e w6 ⟨rfl, h1⟩
  rw [same_self]
  have F6 : Hid (Fr Nix w4 w6) := (F5.out.alloc _).nix h1
  clear h1
  go_wp2_with fail
  refine (many_any _ _ _ (T4.out.mono F6.out (fun _ _ h => h))).mono ?_
  rintro e w7 ⟨rfl, rfl⟩
  go_wp2_with fail
  go_ret
  exact ⟨rfl, F4.out.nix F6.out⟩

theorem putT_zero {xs l : List Rw} (h : putE xs l = 0) : putT xs l = putL xs l := by unfold putT; rw [if_pos h]
theorem putT_not {xs l : List Rw} (h : putE xs l ≠ 0) : putT xs l = xs := by unfold putT; rw [if_neg h]
theorem putE_kind (xs l : List Rw) : putE xs l = 2 ∨ putE xs l = 8 ∨ putE xs l = 0 := by unfold putE; split; exact .inl rfl; split; exact .inr (.inl rfl); exact .inr (.inr rfl)

theorem posR_empty (xs : List Rw) : posR ⟨#[]⟩ xs = 0 := by
  cases xs with
  | nil => rfl
  | cons y r => rw [posR_cons, if_neg]; simp [ltB]
theorem inR_all (xs : List Rw) : inR ByteArray.empty ByteArray.empty xs = xs := by
  have h1 : posR ByteArray.empty xs = 0 := posR_empty xs
  have h2 : rightB ByteArray.empty ByteArray.empty = true := by kernel_rfl
  have h3 : noneB ByteArray.empty = true := by kernel_rfl
  simp [inR, bnds, h1, h2, h3]
theorem mem_putR {x y : Rw} {xs : List Rw} (h : y ∈ putR x xs) : y = x ∨ y ∈ xs := by
  unfold putR at h
  split at h
  · rcases List.mem_or_eq_of_mem_set h with h | h
    · exact .inr h
    · exact .inl h
  · simp only [List.mem_append, List.mem_singleton] at h
    rcases h with (h | h) | h
    · exact .inr (List.mem_of_mem_take h)
    · exact .inl h
    · exact .inr (List.mem_of_mem_drop h)
theorem mem_putL {y : Rw} : ∀ (l xs : List Rw), y ∈ putL xs l → y ∈ xs ∨ y ∈ l
  | [], xs, h => .inl h
  | x :: r, xs, h => by
    rcases mem_putL r (putR x xs) h with h | h
    · rcases mem_putR h with h | h
      · exact .inr (by simp [h])
      · exact .inl h
    · exact .inr (by simp [h])
theorem putL_small {xs : List Rw} (h : SmallR xs) : SmallR (putL [] xs) := fun y hy => by
  rcases mem_putL xs [] hy with h' | h'
  · cases h'
  · exact h y h'

theorem putE_twice {xs : List Rw} (h : putE [] xs = 0) : putE (putL [] xs) xs = 0 := by
  unfold putE at h ⊢
  rw [putL_twice]
  exact h

set_option maxHeartbeats 4000000 in
theorem rowsLast_any (w : World) (v : Value) (xs : List Rw) (hr : RdR w v xs) (hs : SmallR xs) :
    Calls Try.prog 3 #[v] w fun e w' => e = .returned (.bool true) ∧ Fr Nix w w' := by
  have hv : ∃ A c, v = .slice A xs.length c := by obtain ⟨_, A, c, e, _⟩ := hr; exact ⟨A, c, e⟩
  obtain ⟨A, c, rfl⟩ := hv
  have HR := Lib.hid hr
  have HS := Lib.hid hs
  clear hr hs
  go_enter Try.func3, Try.ntmps3
  go_wp2_with fail
  refine (awake_any _).mono ?_
  rintro e w1 ⟨rfl, h1⟩
  have F1 := Lib.hid h1
  clear h1
  go_wp2_with fail
  refine (linesOf_any w1 _ xs 1200 (HR.out.nix F1.out) HS.out (by decide) (by decide)).mono ?_
  rintro e w2 ⟨rfl, h1⟩
  have F2 : Hid (Fr Nix w w2) := F1.out.nix h1
  clear h1 F1
  by_cases hl : 1200 < linesN 1200 xs 0
  · go_wp2
    go_ret
    exact ⟨rfl, F2.out⟩
  have hlen : xs.length ≤ 1200 := by have := linesN_length 1200 xs 0 (by omega); omega
  go_wp2_with fail
  refine (newT_any _).mono ?_
  rintro e w3 ⟨rfl, h1, h2, h3⟩
  have F3 : Hid (Fr Nix w w3) := F2.out.nix h2
  go_wp2_with fail
  refine (putT_any w3 _ [] xs _ h1 (HR.out.nix F3.out) (by omega)).mono ?_
  rintro e w4 ⟨rfl, g1, g2, g3⟩
  have s2 := F2.out.size
  have F4 : Hid (Fr Nix w w4) := F3.out.then g2 (fun i hi h => by omega)
  have N4 : Hid (∀ k, FootT w4 w2.heap.size k → w2.heap.size ≤ k) := fun k hk => by
    rcases g3 k hk with h | h
    · exact h3 k h
    · exact Nat.le_trans h2.size h
  have T4 := Lib.hid g1
  clear h1 h2 h3 g1 g2 g3
  by_cases hE : putE [] xs = 0
  · rw [hE]
    have T4' : Hid (IsT w4 w2.heap.size (putL [] xs)) := by have := T4.out; rw [putT_zero hE] at this; exact this
    clear T4
    have HT : Hid (∃ T, T = putL [] xs) := ⟨_, rfl⟩
    have hmm := @run_makeMap Try.prog
    go_wp2_with fail
    clear hmm
    have hM0 : Hid (Fr (fun i => i = w4.heap.size) (w4.alloc (.map #[] 0)) (w4.alloc (.map #[] 0)) ∧ MapS (w4.alloc (.map #[] 0)) w4.heap.size (putL [] (xs.take 0))) := ⟨Fr.refl _ _, MapS.made w4⟩
    go_loopg [6] xs.length (fun gg s6 wr => ∃ k : Nat, k ≤ xs.length ∧ xs.length - k ≤ gg ∧ s6 = .int .i64 k ∧ Hid (Fr (fun i => i = w4.heap.size) (w4.alloc (.map #[] 0)) wr ∧ MapS wr w4.heap.size (putL [] (xs.take k))))
    case atStart => exact ⟨0, Nat.zero_le _, by omega, rfl, hM0.out⟩
    case round =>
      clear hM0
      obtain ⟨k, hk, hg, rfl, H⟩ := hrel
      have FW : Hid (Fr Nix w wr) := (F4.out.alloc (.map #[] 0)).then H.out.1 (fun i hi h => by have := F4.out.size; omega)
      by_cases hlt : k < xs.length
      · rcases (HR.out.nix FW.out) with ⟨_, A9, c9, e9, hr9⟩
        cases e9
        rcases hr9 with h9 | ⟨bb, off, rfl, hbb, hcc⟩
        · rw [h9] at hlt; cases hlt
        have x0 := (hcc k hlt).1
        have x1 := (hcc k hlt).2
        have hsm := HS.out xs[k] (List.getElem_mem hlt)
        have hpl := putL_length (xs.take k) []
        obtain ⟨w5, hrun, hm5, hf5⟩ := (H.out.2.fr ((Fr.refl Nix wr).drew) (fun h => h)).put xs[k] (by simp only [maxLen]; omega) (by simp only [maxLen]; omega) (by simp at hpl; simp only [maxLen]; omega)
        rw [← putL_snoc [] xs k hlt] at hm5
        have H5 : Hid (Fr (fun i => i = w4.heap.size) (w4.alloc (.map #[] 0)) w5 ∧ MapS w5 w4.heap.size (putL [] (xs.take (k + 1)))) := ⟨(H.out.1.drew).trans hf5, hm5⟩
        clear hcc hm5 hf5 hpl hsm
        generalize xs[k] = y at x0 x1 hrun
        go_wp2_with fail
        go_region
        go_wp2_with fail
        go_roundg (xs.length - (k + 1))
        case measure => omega
        case rel => exact ⟨k + 1, by omega, by omega, by go_num, H5.out⟩
      · obtain rfl : k = xs.length := by omega
        have hH := H.out
        rw [List.take_length] at hH
        have F5 := FW
        have s4 := F4.out.size
        have M5 : Hid (MapS wr w4.heap.size (putL [] xs)) := Lib.hid hH.2
        have T5 : Hid (IsT wr w2.heap.size (putL [] xs)) := Lib.hid ((T4'.out.mono ((Fr.refl Nix w4).alloc (.map #[] 0)) (fun _ _ h => h)).mono hH.1 (fun i hi h => by
          have := (FootT.same T4'.out ((Fr.refl Nix w4).alloc (.map #[] 0)) (fun _ _ h => h)).1 hi
          have := T4'.out.lt this
          omega))
        have N5 : Hid (∀ i, FootT wr w2.heap.size i → w2.heap.size ≤ i ∧ i ≠ w4.heap.size) := Lib.hid (fun i hi => by
          have h1 := (FootT.same (T4'.out.mono ((Fr.refl Nix w4).alloc (.map #[] 0)) (fun _ _ h => h)) hH.1 (fun i hi h => by
            have := (FootT.same T4'.out ((Fr.refl Nix w4).alloc (.map #[] 0)) (fun _ _ h => h)).1 hi
            have := T4'.out.lt this
            omega)).1 hi
          have h2 := (FootT.same T4'.out ((Fr.refl Nix w4).alloc (.map #[] 0)) (fun _ _ h => h)).1 h1
          have := T4'.out.lt h2
          exact ⟨N4.out i h2, by omega⟩)
        clear H FW hH
        go_wp2_with fail
        refine (all_any _).mono ?_
        rintro e w6 ⟨rfl, h1⟩
        have F6 : Hid (Fr Nix wr w6) := h1
        clear h1
        go_wp2_with fail
        refine (in_any _ _ _ _ _ (T5.out.mono F6.out (fun _ _ h => h))).mono ?_
        rintro e w7 ⟨v7, rfl, h1, h2, h3⟩
        rw [inR_all] at h1
        have F7 : Hid (Fr Nix wr w7) := F6.out.nix h3
        have O7 := Lib.hid h1
        have V7 : Hid (New wr v7) := fun i hi => Nat.le_trans F6.out.size (h2 i hi)
        clear h1 h2 h3
        obtain ⟨A7, c7, ev7⟩ : ∃ A c, v7 = .slice A (putL [] xs).length c := by obtain ⟨_, A, c, e, _⟩ := O7.out.rd; exact ⟨A, c, e⟩
        subst ev7
        have M7 : Hid (MapS w7 w4.heap.size (putL [] xs)) := M5.out.fr F7.out (fun h => h)
        have HSP : Hid (SmallR (putL [] xs)) := putL_small HS.out
        have HRD : Hid (RdR w7 (.slice A7 (putL [] xs).length c7) (putL [] xs)) := O7.out.rd
        have hTl : (putL [] xs).length ≤ 1200 := by have := putL_length xs []; simp at this; omega
        have HX : Hid (Rising (putL [] xs)) := M5.out.2
        have HPE : Hid (putE (putL [] xs) xs = 0 ∧ putL (putL [] xs) xs = putL [] xs) := ⟨putE_twice hE, putL_twice xs⟩
        have NE7 : Hid (∀ k, (Value.slice A7 (putL [] xs).length c7).ownBlock = some k → k ≠ w2.heap.size) := Lib.hid (fun k hk => by
          have := V7.out k hk
          have := T5.out.lt (.inl rfl)
          omega)
        clear M5 V7 HT
        generalize putL [] xs = T at *
        go_wp2_with fail
        go_loopg [8] (T).length (fun gg s8 wr2 => ∃ k : Nat, k ≤ (T).length ∧ (T).length - k ≤ gg ∧ s8 = .int .i64 k ∧ Hid (Fr Nix w7 wr2))
        case atStart => exact ⟨0, Nat.zero_le _, by omega, rfl, Fr.refl _ _⟩
        case round =>
          obtain ⟨k, hk, hg, rfl, H⟩ := hrel
          by_cases hlt : k < (T).length
          · rcases (HRD.out.nix H.out) with ⟨_, A9, c9, e9, hr9⟩
            cases e9
            rcases hr9 with h9 | ⟨bb, off, rfl, hbb, hcc⟩
            · rw [h9] at hlt; cases hlt
            have x0 := (hcc k hlt).1
            have x1 := (hcc k hlt).2
            have hsm := HSP.out _ (List.getElem_mem hlt)
            have hlook := (M7.out.fr ((H.out).drew) (fun h => h)).at k hlt (by simp only [maxLen]; omega)
            by_cases hk0 : k = 0
            · subst hk0
              clear hcc hsm
              generalize T[0] = y at x0 x1 hlook
              simp only [Nat.zero_mul, Nat.add_zero] at x0 x1
              go_wp2_with fail
              go_region
              go_wp2_with fail
              go_roundg (T.length - 1)
              case measure => omega
              case rel => exact ⟨1, by omega, by omega, by go_num, H.out.drewN _⟩
            · obtain ⟨j, hj⟩ : ∃ j, j + 1 = k := ⟨k - 1, by omega⟩
              have hlt' : j < T.length := by omega
              have hjk : j < k := by omega
              have z0 := (hcc j hlt').1
              have hc := less_iff T[j].k T[k].k
              rw [rising_at HX.out hjk hlt] at hc
              have q2 : ((k : Nat) : Int) - 1 = (j : Int) := by omega
              have q3 : (0 : Int) < (k : Int) := by omega
              have q4 : (j : Int) < (T.length : Int) := by omega
              have q5 : IntKind.i64.wrap ((j : Nat) : Int) = (j : Int) := IntWalk.i64_in _ (by omega)
              have HJ := Lib.hid hj
              have hk0' : 0 < k := by omega
              clear hcc hsm hj hk0
              generalize T[k] = y at x0 x1 hlook hc
              generalize T[j] = z at z0 hc
              go_wp2_with fail
              go_region
              go_wp2_with fail
              go_roundg (T.length - (k + 1))
              case measure => omega
              case rel => exact ⟨k + 1, by omega, by omega, by go_num, H.out.drewN _⟩
          · obtain rfl : k = T.length := by omega
            have hlm := (M7.out.fr H.out (fun h => h)).run_len 3
            have HP := Lib.hid (putT_any wr w2.heap.size T xs _ (T5.out.mono (F7.out.nix H.out) (fun _ _ h => h)) (HR.out.nix (F5.out.nix (F7.out.nix H.out))) (by omega))
            clear hk hlt hg
            go_wp2_with fail
            refine HP.out.mono ?_
            rintro e w8 ⟨rfl, h1, h2, _⟩
            rw [putT_zero HPE.out.1, HPE.out.2] at h1
            rw [HPE.out.1]
            have T8 := Lib.hid h1
            have F8 : Hid (Fr (fun k => k = w2.heap.size) wr w8) := h2
            have O8 : Hid (OwnR w8 (.slice A7 T.length c7) T) := (O7.out.mono H.out (fun _ _ h => h)).mono h2 NE7.out
            clear h1 h2 HP hlm
            go_wp2_with fail
            refine (all_any _).mono ?_
            rintro e w9 ⟨rfl, h1⟩
            have F9 : Hid (Fr Nix w8 w9) := h1
            clear h1
            go_wp2_with fail
            refine (in_any _ _ _ _ _ (T8.out.mono F9.out (fun _ _ h => h))).mono ?_
            rintro e w10 ⟨v10, rfl, h1, h2, h3⟩
            rw [inR_all] at h1
            have F10 : Hid (Fr Nix w8 w10) := F9.out.nix h3
            have O10 := Lib.hid h1
            clear h1 h2 h3
            go_wp2_with fail
            refine (sameLines_any _ _ _ _ _ O10.out.rd (O8.out.mono F10.out (fun _ _ h => h)).rd).mono ?_
            rintro e w11 ⟨rfl, h1⟩
            rw [same_self]
            go_wp2_with fail
            go_ret
            exact ⟨rfl, (F5.out.nix (F7.out.nix H.out)).then (F8.out.nix (F10.out.nix h1)) (fun k hk h => by omega)⟩
  · have T4' : Hid (IsT w4 w2.heap.size []) := by have := T4.out; rw [putT_not hE] at this; exact this
    clear T4
    go_wp2_with fail
    refine (many_any _ _ _ T4'.out).mono ?_
    rintro e w5 ⟨rfl, rfl⟩
    go_wp2
    go_ret
    exact ⟨rfl, F4.out⟩
end Go.Proofs.Ytnilbpofmohfhaa
