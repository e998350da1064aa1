/- The document's Put; copies. -/
import Derived.Test.YtnilbpofmohfhaaGreatRefP
namespace Go.Proofs.YtnilbpofmohfhaaGreat
open Go.RowKit

theorem putE_any {xs l : List Rw} (k : Nat) (hk : k < l.length) (h : rwB l[k] = false) : putE xs l = 2 := by
  unfold putE
  rw [if_pos]
  rw [List.any_eq_true]
  exact ⟨l[k], List.getElem_mem hk, by simp [h]⟩
theorem putE_all {xs l : List Rw} (h : ∀ j (hj : j < l.length), rwB l[j] = true) : putE xs l = if 400 < (putL xs l).length then 8 else 0 := by
  unfold putE
  rw [if_neg]
  rw [List.any_eq_true]
  rintro ⟨x, hx, he⟩
  obtain ⟨j, hj, rfl⟩ := List.getElem_of_mem hx
  rw [h j hj] at he
  cases he

set_option maxRecDepth 100000 in
set_option maxHeartbeats 8000000 in
theorem putM_any (w : World) (b : Nat) (xs l : List Rw) (lv : Value) (h : IsM w b xs) (hs : Rising xs) (hx : xs.length ≤ 400) (hlv : RdR w lv l) (hll : l.length ≤ 100000) :
    Calls Tryz.prog 19 #[.pointer (some ⟨b, 0, none⟩), lv] w fun e w' => e = .returned (.int .i64 (putE xs l)) ∧ IsM w' b (putT xs l) ∧ Fr (fun k => k = b) w w' ∧ (∀ k, FootM w' b k → FootM w b k ∨ w.heap.size ≤ k) := by
  have hbl := h.lt (.inl rfl)
  have HM := Lib.hid h
  obtain ⟨Al, cl, rfl⟩ : ∃ A c, lv = .slice A l.length c := by obtain ⟨_, A, c, e, _⟩ := hlv; exact ⟨A, c, e⟩
  obtain ⟨v, hb, ho, hne⟩ := h
  obtain ⟨A, L, c, rfl⟩ := ho.form
  have m0 : w.cell? ⟨b, 0, none⟩ = some (.slice A L c) := hb.cell 0
  have HB := Lib.hid hb
  have HO := Lib.hid ho
  have HN := Lib.hid hne
  have HL := Lib.hid hlv
  have HS := Lib.hid hs
  clear hb ho hne hlv hs
  go_enter Tryz.func19, Tryz.ntmps19
  go_wp2_with fail
  go_loopg [6] l.length (fun gg s6 wr => ∃ k : Nat, k ≤ l.length ∧ l.length - k ≤ gg ∧ s6 = .int .i64 k ∧ Hid (Fr Nix w wr ∧ ∀ j (hj : j < l.length), j < k → rwB l[j] = true))
  case atStart => exact ⟨0, Nat.zero_le _, by omega, rfl, Fr.refl _ _, fun j _ h => absurd h (Nat.not_lt_zero _)⟩
  case round =>
    obtain ⟨k, hk, hg, rfl, H⟩ := hrel
    by_cases hlt : k < l.length
    · have hlti : (k : Int) < (l.length : Int) := by omega
      obtain ⟨_, A', c', e, hr⟩ := HL.out.nix H.out.1
      cases e
      rcases hr with h0 | ⟨bg, off, rfl, hbg, hcc⟩
      · rw [h0] at hlt; cases hlt
      have x0 := (hcc k hlt).1
      have x1 := (hcc k hlt).2
      have HH := Lib.hid (refRowRight_any l[k] wr)
      have HE : rwB l[k] = false → Hid (putE xs l = 2 ∧ putT xs l = xs) := fun h => by
        have := putE_any (xs := xs) k hlt h
        exact ⟨this, by unfold putT; rw [if_neg (by omega)]⟩
      have HT : rwB l[k] = true → Hid (∀ j (hj : j < l.length), j < k + 1 → rwB l[j] = true) := fun h j hj hjk => by
        by_cases e : j = k
        · subst e; exact h
        · exact H.out.2 j hj (by omega)
      clear hcc
      generalize l[k] = x at x0 x1 HH HE HT
      unfold Rw.val at HH
      cases hq : rwB x with
      | false =>
        rw [hq] at HH
        have HE2 := HE hq
        clear HE HT hq
        go_wp2_with fail
        refine HH.out.mono ?_
        rintro e w2 ⟨rfl, h2⟩
        go_wp2_with fail
        go_ret
        rw [HE2.out.1, HE2.out.2]
        exact ⟨rfl, HM.out.nix (H.out.1.nix h2), (H.out.1.nix h2).any, fun i hi => .inl ((FootM.same HM.out (H.out.1.nix h2) (fun h => h)).1 hi)⟩
      | true =>
        rw [hq] at HH
        have HT2 := HT hq
        clear HE HT hq
        go_wp2_with fail
        refine HH.out.mono ?_
        rintro e w2 ⟨rfl, h2⟩
        have H2 := Lib.hid h2
        clear h2
        go_wp2_with fail
        go_roundg (l.length - (k + 1))
        case measure => omega
        case rel => exact ⟨k + 1, by omega, by omega, by go_num, H.out.1.nix H2.out, HT2.out⟩
    · obtain rfl : k = l.length := by omega
      have HA : Hid (putE xs l = if 400 < (putL xs l).length then 8 else 0) := putE_all (fun j hj => H.out.2 j hj hj)
      have FW : Hid (Fr Nix w wr) := H.out.1
      have HP : ∀ k, (putL xs (l.take k)).length ≤ 400 + k := fun k => by
        have h1 := putL_length (l.take k) xs
        have : (l.take k).length ≤ k := by simp; omega
        omega
      have HPL := Lib.hid HP
      have L0 : Hid (OwnR wr (.slice A L c) (putL xs (l.take 0)) ∧ Fr Nix w wr ∧ ∀ i, (Value.slice A L c).ownBlock = some i → (Value.slice A L c).ownBlock = some i ∨ w.heap.size ≤ i) := ⟨HO.out.mono FW.out (fun _ _ h => h), FW.out, fun i hi => .inl hi⟩
      clear H hk hg hlt HP
      go_wp2_with fail
      go_loopg [5, 7] l.length (fun gg s5 s7 wr => ∃ (k : Nat) (A' : Option Addr) (L' c' : Nat), k ≤ l.length ∧ l.length - k ≤ gg ∧ s7 = .int .i64 k ∧ s5 = .slice A' L' c' ∧
        Hid (OwnR wr (.slice A' L' c') (putL xs (l.take k)) ∧ Fr Nix w wr ∧ ∀ i, (Value.slice A' L' c').ownBlock = some i → (Value.slice A L c).ownBlock = some i ∨ w.heap.size ≤ i))
      case atStart => exact ⟨0, A, L, c, Nat.zero_le _, by omega, rfl, rfl, L0.out⟩
      case round =>
        clear L0
        obtain ⟨k, A5, L5, c5, hk, hg, rfl, rfl, H⟩ := hrel
        by_cases hlt : k < l.length
        · have hlti : (k : Int) < (l.length : Int) := by omega
          obtain ⟨_, A', c', e, hr⟩ := HL.out.nix H.out.2.1
          cases e
          rcases hr with h0 | ⟨bg, off, rfl, hbg, hcc⟩
          · rw [h0] at hlt; cases hlt
          have x0 := (hcc k hlt).1
          have x1 := (hcc k hlt).2
          have HH := Lib.hid (refPut_any wr _ _ l[k] H.out.1 (putL_rising HS.out _) (by have := HPL.out k; omega))
          have hsn := putL_snoc xs l k hlt
          rw [← hsn] at HH
          clear hcc hsn
          generalize l[k] = x at x0 x1 HH
          unfold Rw.val at HH
          go_wp2_with fail
          refine HH.out.mono ?_
          rintro e w2 ⟨v2, rfl, q1, q2, q3⟩
          have N : Hid (∃ A L c, v2 = .slice A L c ∧ OwnR w2 v2 (putL xs (l.take (k + 1))) ∧ New wr v2 ∧ Fr Nix w w2) := by
            obtain ⟨A, L, c, e⟩ := q1.form
            exact ⟨A, L, c, e, q1, q2, H.out.2.1.nix q3⟩
          clear q1 q2 q3 HH
          obtain ⟨A6, L6, c6, rfl, n1, n2, n3⟩ := N.out
          have NN : Hid (OwnR w2 (.slice A6 L6 c6) (putL xs (l.take (k + 1))) ∧ Fr Nix w w2 ∧ ∀ i, (Value.slice A6 L6 c6).ownBlock = some i → (Value.slice A L c).ownBlock = some i ∨ w.heap.size ≤ i) := ⟨n1, n3, fun i hi => .inr (Nat.le_trans H.out.2.1.size (n2 i hi))⟩
          clear n1 n2 n3 N
          go_wp2_with fail
          go_roundg (l.length - (k + 1))
          case measure => omega
          case rel => exact ⟨k + 1, A6, L6, c6, by omega, by omega, by go_num, rfl, NN.out⟩
        · obtain rfl : k = l.length := by omega
          have HH := H.out
          rw [List.take_length] at HH
          have H1 := Lib.hid HH
          have hL : Hid (L5 = (putL xs l).length) := by obtain ⟨_, A', c', e, _⟩ := HH.1.rd; cases e; rfl
          have hL5 : L5 ≤ 200000 := by
            have h1 := HPL.out l.length
            rw [List.take_length] at h1
            have := hL.out
            omega
          have m1 : wr.cell? ⟨b, 0, none⟩ = some (.slice A L c) := H1.out.2.1.cell' m0
          have BW : Hid (Blk wr b [.slice A L c] 31) := HB.out.mono H1.out.2.1 (fun h => h)
          have f1 : wr.frozen? ⟨b, 0, none⟩ = false := BW.out.frozen 0
          clear H HH hk hg hlt
          by_cases h4 : 400 < L5
          · have h4i : (400 : Int) < (L5 : Int) := by omega
            have HE2 : Hid (putE xs l = 8 ∧ putT xs l = xs) := by
              have e : putE xs l = 8 := by rw [HA.out, if_pos (by have := hL.out; omega)]
              exact ⟨e, by unfold putT; rw [if_neg (by omega)]⟩
            go_wp2_with fail
            go_ret
            rw [HE2.out.1, HE2.out.2]
            exact ⟨rfl, HM.out.nix H1.out.2.1, H1.out.2.1.any, fun i hi => .inl ((FootM.same HM.out H1.out.2.1 (fun h => h)).1 hi)⟩
          · have h4i : ¬ (400 : Int) < (L5 : Int) := by omega
            have HE2 : Hid (putE xs l = 0 ∧ putT xs l = putL xs l) := by
              have e : putE xs l = 0 := by rw [HA.out, if_neg (by have := hL.out; omega)]
              exact ⟨e, by unfold putT; rw [if_pos e]⟩
            go_wp2_with fail
            go_ret
            rw [HE2.out.1, HE2.out.2]
            have hnb : ∀ i, (Value.slice A5 L5 c5).ownBlock = some i → i ≠ b := fun i hi e => by
              subst e
              rcases H1.out.2.2 _ hi with h | h
              · exact HN.out h
              · omega
            have FS : Fr (fun k => k = b) wr (wr.setCell ⟨b, 0, none⟩ (.slice A5 L5 c5)) := (Fr.refl (fun k => k = b) wr).setCell (p := ⟨b, 0, none⟩) (.inr rfl) _
            have hcell : (wr.setCell ⟨b, 0, none⟩ (.slice A5 L5 c5)).cell? ⟨b, 0, none⟩ = some (.slice A5 L5 c5) := (BW.out.set 0 (.slice A5 L5 c5)).cell 0
            refine ⟨rfl, ⟨_, BW.out.set 0 _, H1.out.1.mono FS hnb, fun e => hnb _ e rfl⟩, H1.out.2.1.any.trans FS, fun i hi => ?_⟩
            rcases hi with h | ⟨v', h1, h2⟩
            · exact .inl (.inl h)
            · rw [hcell] at h1
              cases h1
              rcases H1.out.2.2 _ h2 with h | h
              · exact .inl (.inr ⟨_, m0, h⟩)
              · exact .inr h

set_option maxRecDepth 100000 in
theorem copyLines_any (w : World) (v : Value) (xs : List Rw) (hr : RdR w v xs) (hB : xs.length ≤ 1000000) :
    Calls Tryz.prog 10 #[v] w fun e w' => ∃ v', e = .returned v' ∧ OwnR w' v' xs ∧ New w v' ∧ Fr Nix w w' := by
  obtain ⟨i0, hi0, hz0, hz1, hz2⟩ := info_parts infoRow
  have HS := Lib.hid hr.src
  obtain ⟨A, c, rfl⟩ : ∃ A c, v = .slice A xs.length c := by obtain ⟨_, A, c, e, _⟩ := hr; exact ⟨A, c, e⟩
  clear hr
  go_enter Tryz.func10, Tryz.ntmps10
  go_wp2_with (at_builtin; refine wp_append rfl _ _ 29 rfl 48 i0 _ 2 32 Tryz.underlying29 hi0 hz0 hz1 hz2 rfl (by decide) _ 0 [] rfl ?c1 _ rfl xs.length (cellsR xs) ?c2 ?c3 ?c4 ?c5)
  case c1 => exact World.ownsRow_nil _ _ _ _
  case c2 => exact HS.out
  case c3 => simp only [maxLen]; omega
  case c4 => omega
  case c5 =>
    intro v5 w5 ho5 hf5 hat5
    have N5 : Hid (OwnR w5 v5 xs ∧ New w v5 ∧ Fr Nix w w5) := by
      refine ⟨?_, fun i hi => ?_, hf5.mono (fun k _ h => by simp [Foot, Value.ownBlock] at h)⟩
      · show w5.ownsRow _ _ _ _ _ _
        simpa using ho5
      · rcases hat5 with e | e
        · rw [e] at hi; simp [Value.ownBlock] at hi
        · rw [e] at hi; cases hi; exact Nat.le_refl _
    clear ho5 hf5 hat5
    go_wp2_with fail
    go_ret
    exact ⟨_, rfl, N5.out⟩

set_option maxRecDepth 100000 in
theorem copyT_any (w : World) (b : Nat) (xs : List Rw) (h : IsT w b xs) :
    Calls Tryz.prog 9 #[.pointer (some ⟨b, 0, none⟩)] w fun e w' => ∃ b', e = .returned (.pointer (some ⟨b', 0, none⟩)) ∧ IsT w' b' xs ∧ Fr Nix w w' ∧ ∀ k, FootT w' b' k → w.heap.size ≤ k := by
  obtain ⟨v, hb, ho, hne, hs, hl⟩ := h
  have h0 : w.cell? ⟨b, 0, none⟩ = some v := hb.cell 0
  have h1 : w.cell? ⟨b, 1, none⟩ = some (.bool true) := hb.cell 1
  have HC := Lib.hid (cloneR_any w v xs ho.rd (by omega))
  have HS := Lib.hid hs
  obtain ⟨A, L, c, rfl⟩ := ho.form
  clear ho hb hs hne
  go_enter Tryz.func9, Tryz.ntmps9
  go_wp2_with fail
  refine (known_any _ _ true h1).mono ?_
  rintro e w1 ⟨rfl, rfl⟩
  go_wp2_with fail
  refine HC.out.mono ?_
  rintro e w1 ⟨v1, rfl, q1, q2, q3⟩
  have Q1 := Lib.hid q1
  have Q2 := Lib.hid q2
  have Q3 := Lib.hid q3
  clear q1 q2 q3 h0 h1
  obtain ⟨A1, L1, c1, rfl⟩ := Q1.out.form
  go_wp2_with fail
  go_ret
  have hB := Blk.new w1 [.slice A1 L1 c1, .bool true] 58
  refine ⟨_, rfl, ⟨_, hB, Q1.out.mono ((Fr.refl Nix _).alloc _) (fun _ _ h => h), fun e => by have := own_lt Q1.out _ e; omega, HS.out, hl⟩, Q3.out.alloc _, ?_⟩
  rintro k (rfl | ⟨v, g1, g2⟩)
  · exact Q3.out.size
  · have : _ = some (Value.slice A1 L1 c1) := hB.cell 0
    rw [this] at g1
    cases g1
    exact Q2.out k g2
end Go.Proofs.YtnilbpofmohfhaaGreat
