/- RowsBytes: the walk. -/
import Derived.Test.YtnilbpofmohfhaaGreatAwake
import Derived.Test.YtnilbpofmohfhaaGreatKept
import Derived.Test.YtnilbpofmohfhaaGreatRefRead
import Derived.Test.YtnilbpofmohfhaaGreatRefBytes
import Derived.Deep.RegionHeld3
import Derived.Deep.DrawnRows
namespace Go.Proofs.YtnilbpofmohfhaaGreat
open Go.RowKit

theorem textB_len (s : ByteArray) (h : s.size ≤ 4611686018427387903) : (rowB s.data.toList).length ≤ 9 + s.size := by
  unfold rowB
  have h1 : s.data.toList.length = s.size := by simp
  rw [List.length_append, h1]
  have := varB_len9 s.size h
  omega
theorem pairs_len (most : Int) : ∀ (l : List Rw) (n : Int), SmallR l → linesN most l n ≤ most → ((l.flatMap pairB).length : Int) + 32 * n ≤ 32 * most
  | [], n, _, h => by simp [linesN] at h ⊢; omega
  | x :: r, n, hs, h => by
    rw [linesN] at h
    split at h
    · have ih := pairs_len most r _ (fun y hy => hs y (by simp [hy])) h
      have hx := hs x (by simp)
      have h1 := textB_len x.k (by omega)
      have h2 := textB_len x.v (by omega)
      have e : (pairB x).length ≤ 18 + x.k.size + x.v.size := by simp [pairB, textsB]; omega
      rw [List.flatMap_cons, List.length_append]
      omega
    · omega
theorem bytes_len (xs : List Rw) (hs : SmallR xs) (h : linesN 1200 xs 0 ≤ 1200) : (bytesR xs).length ≤ 100000 := by
  have h1 := pairs_len 1200 xs 0 hs h
  have h2 := linesN_length 1200 xs 0 h
  unfold bytesR
  rw [List.length_append]
  have := varB_len9 xs.length (by omega)
  omega

theorem RdR.front {w : World} {g n c c' : Nat} {xs ys : List Rw} (h : RdR w (.slice (some ⟨g, 0, none⟩) n c) (xs ++ ys)) : RdR w (.slice (some ⟨g, 0, none⟩) xs.length c') xs := by
  refine ⟨?_, _, c', rfl, ?_⟩
  · have := h.1; simp at this; omega
  · cases xs with
    | nil => exact .inl rfl
    | cons x r =>
      have h0 := h.at 0 (by simp)
      refine .inr ⟨g, 0, rfl, h0.1, fun i hi => ?_⟩
      have h1 := (h.at i (by simp at hi ⊢; omega)).2
      rw [List.getElem_append_left hi] at h1
      exact h1

/-- Bytes that are read, by a slice that stands as slices stand. -/
def RdG (w : World) (v : Value) (xs : List UInt8) : Prop := RdB w v xs ∧ v.capOk xs.length ∧ ∀ k, v.ownBlock = some k → k < w.heap.size
theorem RdG.nix {w w' : World} {v : Value} {xs : List UInt8} (h : RdG w v xs) (hf : Fr Nix w w') : RdG w' v xs := ⟨h.1.nix hf, h.2.1, fun k hk => Nat.lt_of_lt_of_le (h.2.2 k hk) hf.size⟩
theorem OwnB.rdG {w : World} {v : Value} {xs : List UInt8} (h : OwnB w v xs) : RdG w v xs := by
  refine ⟨h.rd, ?_, fun k hk => own_lt h k hk⟩
  rcases h.cases with ⟨e, rfl⟩ | ⟨g, cap, cur, e, _, h1, _⟩
  · exact ⟨_, _, e, Nat.le_refl _⟩
  · exact ⟨_, _, e, h1⟩
theorem IsRf.new (w : World) (v : Value) (xs : List UInt8) (h : RdG w v xs) : IsRf (w.alloc (.cells #[v, .bool false] 101)) w.heap.size false xs :=
  ⟨v, Blk.new w [v, .bool false] _, h.1.nix ((Fr.refl _ _).alloc _), fun e => by have := h.2.2 _ e; omega, (fun e => by cases e), h.2.1, fun k hk => by rw [World.size_alloc]; exact Nat.lt_succ_of_lt (h.2.2 k hk)⟩
theorem IsRf.foot {w : World} {v : Value} {k : Nat} (h : FootRf (w.alloc (.cells #[v, .bool false] 101)) w.heap.size k) : k = w.heap.size ∨ v.ownBlock = some k := by
  rcases h with rfl | ⟨v', h1, h2⟩
  · exact .inl rfl
  · have : _ = some v := (Blk.new w [v, .bool false] 101).cell 0
    rw [this] at h1
    cases h1
    exact .inr h2

/-- Behind the two readers: both over the same bytes, apart. -/
def Two (wr W : World) (b m : Nat) (zs : List UInt8) : Prop :=
  IsRd W b false zs ∧ IsRf W m false zs ∧ Fr Nix wr W ∧ (∀ k, FootRd W b k → wr.heap.size ≤ k ∧ k ≠ m) ∧ (∀ k, FootRf W m k → k = m ∨ k < wr.heap.size) ∧ wr.heap.size ≤ m
theorem two_a {wr w1 : World} {b : Nat} {v : Value} {zs : List UInt8} (i1 : IsRd w1 b false zs) (i2 : Fr Nix wr w1) (i3 : ∀ k, FootRd w1 b k → wr.heap.size ≤ k) (z : RdG wr v zs) :
    Two wr (w1.alloc (.cells #[v, .bool false] 101)) b w1.heap.size zs := by
  have ha : Fr Nix w1 (w1.alloc (.cells #[v, .bool false] 101)) := (Fr.refl _ _).alloc _
  refine ⟨i1.nix ha, IsRf.new w1 v zs (z.nix i2), i2.nix ha, fun k hk => ?_, fun k hk => ?_, i2.size⟩
  · have hk' := (FootRd.same i1 ha (fun h => h)).1 hk
    exact ⟨i3 k hk', by have := i1.flt hk'; omega⟩
  · rcases IsRf.foot hk with h | h
    · exact .inl h
    · exact .inr (z.2.2 k h)
theorem two_b {wr w1 : World} {b : Nat} {v : Value} {zs : List UInt8} (i1 : IsRd w1 b false zs) (i2 : Fr Nix (wr.alloc (.cells #[v, .bool false] 101)) w1) (i3 : ∀ k, FootRd w1 b k → (wr.alloc (.cells #[v, .bool false] 101)).heap.size ≤ k) (z : RdG wr v zs) :
    Two wr w1 b wr.heap.size zs := by
  have hf := IsRf.new wr v zs z
  refine ⟨i1, hf.nix i2, ((Fr.refl _ _).alloc _).nix i2, fun k hk => ?_, fun k hk => ?_, Nat.le_refl _⟩
  · have := i3 k hk
    rw [World.size_alloc] at this
    exact ⟨by omega, by omega⟩
  · rcases IsRf.foot ((FootRf.same hf i2 (fun h => h)).1 hk) with h | h
    · exact .inl h
    · exact .inr (z.2.2 k h)

set_option maxRecDepth 100000 in
set_option maxHeartbeats 8000000 in
theorem rowsBytes_any (w : World) (v u : Value) (xs : List Rw) (bs : List UInt8) (hr : RdR w v xs) (hs : SmallR xs) (hu : RdG w u bs) :
    Calls Tryz.prog 17 #[v, u] w fun e w' => e = .returned (.bool true) ∧ Fr Nix w w' := by
  obtain ⟨A, c, rfl⟩ : ∃ A c, v = .slice A xs.length c := by obtain ⟨_, A, c, e, _⟩ := hr; exact ⟨A, c, e⟩
  obtain ⟨B, d, rfl⟩ := hu.1.form
  have HR := Lib.hid hr
  have HS := Lib.hid hs
  have HU := Lib.hid hu
  clear hr hs hu
  go_enter Tryz.func17, Tryz.ntmps17
  go_wp2_with fail
  refine (linesOf_any w _ xs 1200 HR.out HS.out (by decide) (by decide)).mono ?_
  rintro e w1 ⟨rfl, h1⟩
  have F1 := Lib.hid h1
  clear h1
  by_cases hl : 1200 < linesN 1200 xs 0
  · go_wp2_with fail
    refine (awake_any _).mono ?_
    rintro e w2 ⟨rfl, h2⟩
    go_wp2
    go_ret
    exact ⟨rfl, F1.out.nix h2⟩
  by_cases hb : (20000 : Int) < (bs.length : Int)
  · go_wp2_with fail
    refine (awake_any _).mono ?_
    rintro e w2 ⟨rfl, h2⟩
    go_wp2
    go_ret
    exact ⟨rfl, F1.out.nix h2⟩
  have hlen : xs.length ≤ 1200 := by have := linesN_length 1200 xs 0 (by omega); omega
  have hbl : (bytesR xs).length ≤ 100000 := bytes_len xs HS.out (by omega)
  go_wp2_with fail
  refine (lent_any w1 _ xs (HR.out.nix F1.out) (by omega)).mono ?_
  rintro e w2 ⟨g, rfl, l1, l2, l3⟩
  have L2 := Lib.hid l1
  have F2 : Hid (Fr Nix w w2) := F1.out.nix l3
  have hg : Hid (g < w2.heap.size) := (l1.at xs.length (by simp [marksR])).1
  clear l1 l2 l3 F1
  go_wp2_with fail
  refine (newW_any _).mono ?_
  rintro e w3 ⟨rfl, n1, n2, n3⟩
  have N1 := Lib.hid n1
  have N2 := Lib.hid n2
  have N3 := Lib.hid n3
  clear n1 n2 n3
  go_wp2_with fail
  refine (rowsWrite_any w3 w2.heap.size false [] _ xs N1.out ((L2.out.nix N2.out).front) (fun k hk hf => by have := N3.out k hf; have := hg.out; simp [Value.ownBlock] at hk; omega) (by simpa using (by omega : (bytesR xs).length ≤ 1000000000)) (by omega)).mono ?_
  rintro e w4 ⟨rfl, s1, s2, s3⟩
  have F4 : Hid (Fr Nix w w4) := (F2.out.nix N2.out).then s2 (fun i hi h => by have := N3.out i h; have := F2.out.size; omega)
  have L4 : Hid (RdR w4 (.slice (some ⟨g, 0, none⟩) (xs.length + 12) (xs.length + 12)) (xs ++ marksR 12)) := (L2.out.nix N2.out).mono1 s2 (fun k hk hf => by have := N3.out k hf; have := hg.out; simp [Value.ownBlock] at hk; omega)
  have S4 := Lib.hid s1
  clear s1 s2 s3 N1 N2 N3 L2
  go_wp2_with fail
  refine (doneW_any w4 w2.heap.size false _ S4.out (by simpa using (by omega : (bytesR xs).length ≤ 1000000000))).mono ?_
  rintro e w5 ⟨v5, rfl, d1, d2, d3⟩
  simp only [Bool.false_eq_true, if_false, List.nil_append] at d1
  simp only [Bool.false_eq_true, if_false]
  have F5 : Hid (Fr Nix w w5) := F4.out.nix d3
  have L5 := Lib.hid (L4.out.nix d3)
  have G5 := Lib.hid (OwnB.rdG d1)
  clear d1 d2 d3 S4 L4 F4
  obtain ⟨A5, n5, c5, e5⟩ : ∃ A n c, v5 = .slice A n c := G5.out.1.form'
  subst e5
  go_wp2_with fail
  refine (refBytes_any w5 _ xs (HR.out.nix F5.out) (by omega) (by omega)).mono ?_
  rintro e w6 ⟨v6, rfl, d1, d2, d3⟩
  have F6 : Hid (Fr Nix w5 w6) := d3
  have G6 := Lib.hid d1.rd
  clear d1 d2 d3
  obtain ⟨A6, n6, c6, e6⟩ : ∃ A n c, v6 = .slice A n c := G6.out.form'
  subst e6
  go_wp2_with fail
  refine (sameBytes_any w6 _ _ _ _ (G5.out.1.nix F6.out) G6.out).mono ?_
  rintro e w7 ⟨rfl, d1⟩
  rw [decide_eq_true rfl]
  have F7 : Hid (Fr Nix w5 w7) := F6.out.nix d1
  clear d1 G6 F6
  go_wp2_with fail
  refine (kept_any w7 g _ xs (L5.out.nix F7.out) (HR.out.nix (F5.out.nix F7.out)) (by omega)).mono ?_
  rintro e w8 ⟨rfl, d1⟩
  have F8 : Hid (Fr Nix w w8) := F5.out.nix (F7.out.nix d1)
  have G8 : Hid (RdG w8 (.slice A5 n5 c5) (bytesR xs)) := G5.out.nix (F7.out.nix d1)
  have U8 : Hid (RdG w8 (.slice B bs.length d) bs) := HU.out.nix F8.out
  clear d1 F7 L5 G5 F5 F2 HU HR hg
  go_wp2_with fail
  have F9 : Fr Nix w8 (w8.alloc (.cells #[.slice A5 n5 c5, .slice B bs.length d] 50)) := (Fr.refl _ _).alloc _
  have B9 := Blk.new w8 [.slice A5 n5 c5, .slice B bs.length d] 50
  have E9 : Hid (∀ k, k < 2 → ∃ A n c zs, (w8.alloc (.cells #[.slice A5 n5 c5, .slice B bs.length d] 50)).cell? ⟨w8.heap.size, k, none⟩ = some (.slice A n c) ∧ RdG (w8.alloc (.cells #[.slice A5 n5 c5, .slice B bs.length d] 50)) (.slice A n c) zs ∧ zs.length ≤ 1000000000) := by
    intro k hk
    rcases k with _ | _ | k
    · exact ⟨A5, n5, c5, _, B9.cell 0, G8.out.nix F9, by omega⟩
    · exact ⟨B, _, d, _, B9.cell 1, U8.out.nix F9, by omega⟩
    · omega
  have FW : Hid (Fr Nix w (w8.alloc (.cells #[.slice A5 n5 c5, .slice B bs.length d] 50))) := F8.out.nix F9
  have hgw : w8.heap.size < (w8.alloc (.cells #[.slice A5 n5 c5, .slice B bs.length d] 50)).heap.size := by simp
  clear F9 B9 G8 U8 hbl hlen hb hl
  generalize w8.alloc (.cells #[.slice A5 n5 c5, .slice B bs.length d] 50) = W9 at *
  generalize w8.heap.size = g9 at *
  clear F8
  go_loopg [9] 2 (fun gg s9 wr => ∃ k : Nat, k ≤ 2 ∧ 2 - k ≤ gg ∧ s9 = .int .i64 k ∧ Hid (Fr Nix W9 wr))
  case atStart => exact ⟨0, by omega, by omega, rfl, Fr.refl _ _⟩
  case round =>
    obtain ⟨k, hk, hgk, rfl, H⟩ := hrel
    by_cases hlt : k < 2
    · obtain ⟨An, nn, cn, zs, z1, z2, z3⟩ := E9.out k hlt
      have z0 := H.out.cell' z1
      have Z2 := Lib.hid (z2.nix H.out)
      have hki : (k : Int) < 2 := by omega
      have Z4 := z3
      clear z1 z2
      go_wp2_with fail
      go_region_held3 (fun w' => w'.cell? ⟨g9, k, none⟩ = some (.slice An nn cn)) (first | go_keep | assumption)
        (first | (go_at_call 39; refine (newRd_any _ _ zs (Z2.out.1.nix (by repeat (first | exact Fr.refl _ _ | apply Fr.drew | apply Fr.alloc))) Z4).mono ?_; rintro e w1 ⟨b1, rfl, i1, i2, i3⟩; have zk : w1.cell? ⟨g9, k, none⟩ = some (.slice An nn cn) := i2.cell' (by go_simp)))
      obtain ⟨bm, hbm, KEY⟩ : ∃ m, m = w1.heap.size ∧ Hid (Two wr _ b1 m zs) := ⟨_, rfl, Lib.hid (two_a i1 (Fr.undrew i2) i3 Z2.out)⟩
      rotate_left
      obtain ⟨bm, hbm, KEY⟩ : ∃ m, m = wr.heap.size ∧ Hid (Two wr _ b1 m zs) := ⟨_, rfl, Lib.hid (two_b (wr := wr) i1 (Fr.undrew i2) i3 Z2.out)⟩
      rotate_left
      all_goals
        rw [← hbm]
        clear hbm
        clear i1 i2 i3
        go_wp2_with fail
        obtain ⟨q, hq⟩ : ∃ q, (readRows zs).1.isSome = q := ⟨_, rfl⟩
        refine (rowsRead_any _ b1 zs KEY.out.1 Z4).mono ?_
        rintro e w10 ⟨v10, rfl, r1, r2, r3⟩
        rw [hq]
        have X10 := Lib.hid (And.intro KEY.out.2 (And.intro r1 (And.intro r2 r3)))
        clear r1 r2 r3
        obtain ⟨A10, n10, c10, e10⟩ : ∃ A n c, v10 = .slice A n c := X10.out.2.1.form
        subst e10
        go_wp2_with fail
        have hRf10 : Hid (IsRf w10 bm false zs) := (KEY.out.2.1.mono X10.out.2.2.2.2.1 (fun k hk e => by
          subst e
          rcases KEY.out.2.2.2.2.1 _ hk with h | h
          · exact (KEY.out.2.2.2.1 _ (.inl rfl)).2 h
          · have := (KEY.out.2.2.2.1 _ (.inl rfl)).1; omega))
        have hm := KEY.out.2.1.lt
        refine (refRead_any w10 bm zs hRf10.out Z4).mono ?_
        rintro e w11 ⟨v11, rfl, q1, q2, q3, q4⟩
        rw [hq]
        clear hRf10
        have O11 : Hid (RdR w11 (.slice A10 n10 c10) (rowsOf (readRows zs).1)) := (X10.out.2.1.mono q2 (fun k hk e => by have := X10.out.2.2.1 k hk; omega)).rd
        have R11 : Hid (IsRd w11 b1 (readRows zs).2.1 (readRows zs).2.2) := X10.out.2.2.2.1.mono q2 (fun k hk => (KEY.out.2.2.2.1 k (X10.out.2.2.2.2.2 k hk)).2)
        have F11 : Hid (Fr Nix wr w11) := by
          have h1 : Fr Nix wr w10 := KEY.out.2.2.1.then X10.out.2.2.2.2.1 (fun i hi e => by have := (KEY.out.2.2.2.1 b1 (.inl rfl)).1; omega)
          exact h1.then q2 (fun i hi e => by have := KEY.out.2.2.2.2.2; omega)
        have Q11 := Lib.hid q1
        have S11 : Hid ((readRows zs).1.isSome = true → ∃ A c, w11.cell? ⟨bm, 0, none⟩ = some (.slice A (readRows zs).2.2.length c)) := fun h => by
          obtain ⟨v, hb, hr, _⟩ := (q4 h).1
          obtain ⟨A, c, e⟩ := hr.form
          exact ⟨A, c, by rw [← e]; exact hb.cell 0⟩
        clear q1 q2 q3 q4 hm X10 KEY
        obtain ⟨A11, n11, c11, e11⟩ : ∃ A n c, v11 = .slice A n c := by obtain ⟨_, A, c, e, _⟩ := Q11.out; exact ⟨A, _, c, e⟩
        subst e11
        have HSame : ∀ n : Gt w11, Hid (Calls Tryz.prog 24 #[.slice A10 n10 c10, .slice A11 n11 c11] n.w fun e w' => e = .returned (.bool true) ∧ Fr Nix n.w w') := fun n => by
          have := sameLines_any n.w _ _ _ _ (O11.out.nix n.fr) (Q11.out.nix n.fr)
          rw [same_self] at this
          exact this
        have HLeft : ∀ n : Gt w11, Hid (Calls Tryz.prog 42 #[.pointer (some ⟨b1, 0, none⟩)] n.w fun e w' => e = .returned (.int .i64 (readRows zs).2.2.length) ∧ n.w = w') := fun n => leftR_any n.w b1 _ _ (R11.out.nix n.fr)
        clear O11 R11 Q11
        have HQ := Lib.hid hq
        clear hq
        generalize readRows zs = O at S11 HSame HLeft HQ
        obtain ⟨o, bd, rest⟩ := O
        dsimp only at S11 HLeft HQ
        cases q with
        | false =>
          clear S11
          go_wp2_with fail
          refine wp_region_gt (by kernel_rfl) (by kernel_rfl) ?_
          repeat (go_big_quiet_step ((go_at_call 24; exact (HSame _).out.gt)))
          refine wpQuiet_nil ?_
          rintro _ ⟨⟨w12, h12⟩, rfl⟩
          go_wp2_with fail
          go_roundg (2 - (k + 1))
          case measure => omega
          case rel => exact ⟨k + 1, by omega, by omega, by go_num, H.out.nix (F11.out.nix h12)⟩
        | true =>
          obtain ⟨Am, cm, hcm⟩ := S11.out HQ.out
          have zm := Gt.cell hcm
          go_wp2_with fail
          refine wp_region_gt (by kernel_rfl) (by kernel_rfl) ?_
          repeat (go_big_quiet_step ((first | (go_at_call 24; exact (HSame _).out.gt) | (go_at_call 42; exact (HLeft _).out.gt_same))))
          refine wpQuiet_nil ?_
          rintro _ ⟨⟨w12, h12⟩, rfl⟩
          go_wp2_with fail
          go_roundg (2 - (k + 1))
          case measure => omega
          case rel => exact ⟨k + 1, by omega, by omega, by go_num, H.out.nix (F11.out.nix h12)⟩
    · obtain rfl : k = 2 := by omega
      go_wp2_with fail
      refine (awake_any _).mono ?_
      rintro e w2 ⟨rfl, h2⟩
      go_wp2_with fail
      go_ret
      exact ⟨rfl, (FW.out.nix H.out).nix h2⟩
end Go.Proofs.YtnilbpofmohfhaaGreat
