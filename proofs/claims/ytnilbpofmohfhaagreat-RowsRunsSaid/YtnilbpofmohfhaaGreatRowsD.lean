/- Rows, fourth part: Delete; a span's bounds; the table: what it is in memory, and what its methods tell and leave. -/
import Derived.Test.YtnilbpofmohfhaaGreatRowsC
namespace Go.Proofs.YtnilbpofmohfhaaGreat
open Go.RowKit

set_option maxRecDepth 100000 in
theorem delete_same (w : World) (v : Value) (xs : List Rw) (i : Nat) (ho : OwnR w v xs) (hi : i ≤ xs.length) :
    Calls Tryz.prog 49 #[v, .int .i64 (i : Nat), .int .i64 (i : Nat)] w fun e w' => e = .returned v ∧ w = w' := by
  rcases ho.cases with ⟨rfl, rfl⟩ | ⟨g, cap, cur, rfl, hb, h1, h2, h3, h4⟩
  · obtain rfl : i = 0 := by simpa using hi
    go_enter Tryz.func49, Tryz.ntmps49
    go_wp2
    go_ret
    exact ⟨rfl, rfl⟩
  · clear hb h3 h4 ho
    simp only [maxLen] at h2
    go_enter Tryz.func49, Tryz.ntmps49
    go_wp2
    all_goals
      go_ret
      exact ⟨rfl, rfl⟩

set_option maxRecDepth 100000 in
set_option maxHeartbeats 1000000 in
theorem delete_cut (w : World) (g cap : Nat) (cur : List Value) (xs : List Rw) (i j : Nat) (hb : Blk w g cur 48) (h3 : cur.length = cap * 2) (h4 : cur.take (xs.length * 2) = cellsR xs)
    (hij : i < j) (hj : j ≤ xs.length) (hc : xs.length ≤ cap) (hm : cap ≤ maxLen) :
    Calls Tryz.prog 49 #[.slice (some ⟨g, 0, none⟩) xs.length cap, .int .i64 (i : Nat), .int .i64 (j : Nat)] w fun e w' =>
      ∃ v', e = .returned v' ∧ OwnR w' v' (xs.take i ++ xs.drop j) ∧ Fr (fun k => k = g) w w' ∧ v'.ownBlock = some g := by
  obtain ⟨L, hL⟩ : ∃ L, L = i + (xs.length - j) := ⟨_, rfl⟩
  have hdl : (cellsR (xs.drop j)).length = (xs.length - j) * 2 := by rw [cellsR_length, List.length_drop]
  have hbd : Blk w.drew g cur 48 := hb
  obtain ⟨ad, had⟩ : ∃ ad : Addr, ad = if cap = j then ⟨g, 0, none⟩ else ⟨g, j * 2, none⟩ := ⟨_, rfl⟩
  obtain ⟨w2, hr2, hb2, hf2⟩ := run_append_blk (P := Tryz.prog) (w := w.drew) (t := 29) (ty := 29) Tryz.underlying29 szRow (n := i) (cap := cap) hbd (ad := ad) (m := xs.length - j) (c := cap - j) (cs := cellsR (xs.drop j)) hdl (by omega)
    (fun q u hu => by
      have hq := (List.getElem?_eq_some_iff.1 hu).1
      rw [had, if_neg (by omega), addr_add, hbd.cell]
      exact cells_drop hj h4 q u hu) (by rw [hdl, h3]; omega) (cellsR_one _)
  have hsl : (splice cur (i * 2) (cellsR (xs.drop j))).length = cap * 2 := by rw [length_splice _ _ _ (by rw [hdl, h3]; omega), h3]
  obtain ⟨w3, hr3, ⟨cur3, hb3, hl3, ht3⟩, hf3⟩ := run_clear_blk (P := Tryz.prog) (w := w2) (t := 29) (ty := 0) Tryz.underlying29 zeroRow rfl (by decide) (by decide) (off := L * 2) (n := xs.length - L) (c := cap - L) hb2 (by rw [hsl]; omega)
  rw [← hL] at hr2
  have FIN : Hid (OwnR w3 (.slice (some ⟨g, 0, none⟩) L cap) (xs.take i ++ xs.drop j) ∧ Fr (fun k => k = g) w w3) := by
    constructor
    · have hlen : (xs.take i ++ xs.drop j).length = L := by simp; omega
      have ht := splice_take (cs := cellsR (xs.drop j)) (cells_take (i := i) (by omega) h4) (by rw [h3]; omega)
      have := OwnR.of_blk (xs := xs.take i ++ xs.drop j) hb3 (by rw [hlen]; omega) hm (by rw [hl3, hsl]) (by
        rw [hlen, cellsR_append, ← ht, ht3]
        congr 1
        rw [hdl]; omega)
      rw [hlen] at this
      exact this
    · exact ((Fr.refl (fun k => k = g) w).drew.trans hf2).trans hf3
  have HR2 := Lib.hid hr2
  have HR3 := Lib.hid hr3
  have HAD := Lib.hid had
  simp only [maxLen] at hm
  clear hr2 hr3 hb2 hb3 hf2 hf3 hbd hdl hsl hb h3 h4 hl3 ht3 had
  have hLx : L < xs.length := by omega
  have HL := Lib.hid hL
  clear hL
  have hq1 : i ≤ cap := by omega
  have hq2 : (i : Int) ≤ (cap : Int) := by omega
  have hq3 : (j : Int) ≤ (xs.length : Int) := by omega
  have hq4 : ¬ cap = L := by omega
  have hq5 : i ≤ xs.length := by omega
  by_cases hcj : cap = j
  · have had : ad = ⟨g, 0, none⟩ := by rw [HAD.out, if_pos hcj]
    clear HAD
    subst had
    subst hcj
    go_enter Tryz.func49, Tryz.ntmps49
    go_wp2_with fail
    go_still_tail 6, (by kernel_rfl)
    change wpList _ _ _ _ _ w.drew
    refine Lib.wpList_append_run _ rfl (.tmp 22) (.tmp 25) _ _ rfl (.slice (some ⟨g, 0, none⟩) i cap) (.slice (some ⟨g, 0, none⟩) (xs.length - cap) (cap - cap)) (by simp [Act.eval]) (by simp [Act.eval]; try omega) _ _ HR2.out ?_
    go_wp2_with (refine wp_clear_run rfl _ _ rfl _ rfl _ _ HR3.out ?_)
    go_ret
    exact ⟨_, rfl, FIN.out.1, FIN.out.2, rfl⟩
  · have had : ad = ⟨g, j * 2, none⟩ := by rw [HAD.out, if_neg hcj]
    clear HAD
    subst had
    go_enter Tryz.func49, Tryz.ntmps49
    go_wp2_with fail
    go_still_tail 6, (by kernel_rfl)
    change wpList _ _ _ _ _ w.drew
    refine Lib.wpList_append_run _ rfl (.tmp 22) (.tmp 25) _ _ rfl (.slice (some ⟨g, 0, none⟩) i cap) (.slice (some ⟨g, j * 2, none⟩) (xs.length - j) (cap - j)) (by simp [Act.eval]) (by simp [Act.eval]) _ _ HR2.out ?_
    go_wp2_with (refine wp_clear_run rfl _ _ rfl _ rfl _ _ HR3.out ?_)
    go_ret
    exact ⟨_, rfl, FIN.out.1, FIN.out.2, rfl⟩

theorem delete_any (w : World) (v : Value) (xs : List Rw) (i j : Nat) (ho : OwnR w v xs) (hij : i ≤ j) (hj : j ≤ xs.length) :
    Calls Tryz.prog 49 #[v, .int .i64 (i : Nat), .int .i64 (j : Nat)] w fun e w' =>
      ∃ v', e = .returned v' ∧ OwnR w' v' (xs.take i ++ xs.drop j) ∧ Fr (Foot v) w w' ∧ v'.ownBlock = v.ownBlock := by
  by_cases he : i = j
  · subst he
    refine (delete_same w v xs i ho hj).mono ?_
    rintro e w' ⟨rfl, rfl⟩
    exact ⟨v, rfl, by rw [List.take_append_drop]; exact ho, Fr.refl _ _, rfl⟩
  rcases ho.cases with ⟨rfl, rfl⟩ | ⟨g, cap, cur, rfl, hb, h1, h2, h3, h4⟩
  · simp at hj; omega
  · refine (delete_cut w g cap cur xs i j hb h3 h4 (by omega) hj h1 h2).mono ?_
    rintro e w' ⟨v', h5, h6, h7, h8⟩
    exact ⟨v', h5, h6, h7.mono (fun k _ h => by rw [h]; rfl), h8⟩

/-! ### the table -/
/-- What a table is in memory: block b holds its rows' slice, and that it was made. -/
def IsT (w : World) (b : Nat) (xs : List Rw) : Prop :=
  ∃ v, Blk w b [v, .bool true] 58 ∧ OwnR w v xs ∧ v.ownBlock ≠ some b ∧ Rising xs ∧ xs.length ≤ 400
/-- The blocks that a table lies in. -/
def FootT (w : World) (b : Nat) : Nat → Prop := fun k => k = b ∨ ∃ v, w.cell? ⟨b, 0, none⟩ = some v ∧ v.ownBlock = some k
theorem IsT.lt {w : World} {b : Nat} {xs : List Rw} (h : IsT w b xs) {k : Nat} (hk : FootT w b k) : k < w.heap.size := by
  obtain ⟨v, hb, ho, _⟩ := h
  rcases hk with rfl | ⟨v', h1, h2⟩
  · exact hb.lt
  · have : w.cell? ⟨b, 0, none⟩ = some v := hb.cell 0
    rw [this] at h1
    cases h1
    exact own_lt ho k h2
theorem IsT.mono {F : Nat → Prop} {w w' : World} {b : Nat} {xs : List Rw} (h : IsT w b xs) (hf : Fr F w w') (hF : ∀ k, FootT w b k → ¬ F k) : IsT w' b xs := by
  obtain ⟨v, hb, ho, hne, hs, hl⟩ := h
  exact ⟨v, hb.mono hf (hF b (.inl rfl)), ho.mono hf (fun k hk => hF k (.inr ⟨v, hb.cell 0, hk⟩)), hne, hs, hl⟩
theorem FootT.same {F : Nat → Prop} {w w' : World} {b : Nat} {xs : List Rw} (h : IsT w b xs) (hf : Fr F w w') (hF : ∀ k, FootT w b k → ¬ F k) {k : Nat} : FootT w' b k ↔ FootT w b k := by
  obtain ⟨v, hb, ho, hne, hs, hl⟩ := h
  have hc : w'.cell? ⟨b, 0, none⟩ = w.cell? ⟨b, 0, none⟩ := hf.cell (p := ⟨b, 0, none⟩) hb.lt (hF b (.inl rfl))
  unfold FootT
  rw [hc]

theorem newT_any (w : World) : Calls Tryz.prog 7 #[] w fun e w' => e = .returned (.pointer (some ⟨w.heap.size, 0, none⟩)) ∧ IsT w' w.heap.size [] ∧ Fr Nix w w' ∧ (∀ k, FootT w' w.heap.size k → w.heap.size ≤ k) := by
  go_enter Tryz.func7, Tryz.ntmps7
  go_wp2
  go_ret
  have hB := Blk.new w [.slice none 0 0, .bool true] 58
  refine ⟨rfl, ⟨_, hB, World.ownsRow_nil _ _ _ _, (fun h => by cases h), List.Pairwise.nil, Nat.zero_le _⟩, (Fr.refl _ _).alloc _, ?_⟩
  rintro k (rfl | ⟨v, h1, h2⟩)
  · exact Nat.le_refl _
  · rw [hB.cell 0] at h1
    cases h1
    cases h2

theorem known_any (w : World) (b : Nat) (m : Bool) (h : w.cell? ⟨b, 1, none⟩ = some (.bool m)) :
    Calls Tryz.prog 25 #[.pointer (some ⟨b, 0, none⟩)] w fun e w' => e = .returned (.bool m) ∧ w = w' := by
  go_enter Tryz.func25, Tryz.ntmps25
  go_wp2
  go_ret
  exact ⟨rfl, rfl⟩
theorem known_nil (w : World) :
    Calls Tryz.prog 25 #[.pointer none] w fun e w' => e = .returned (.bool false) ∧ w = w' := by
  go_enter Tryz.func25, Tryz.ntmps25
  go_wp2
  go_ret
  exact ⟨rfl, rfl⟩

theorem many_any (w : World) (b : Nat) (xs : List Rw) (h : IsT w b xs) :
    Calls Tryz.prog 20 #[.pointer (some ⟨b, 0, none⟩)] w fun e w' => e = .returned (.int .i64 (xs.length : Nat)) ∧ w = w' := by
  obtain ⟨v, hb, ho, hne, hs, hl⟩ := h
  obtain ⟨_, A, c, rfl, _⟩ := ho.rd
  have h0 : w.cell? ⟨b, 0, none⟩ = some (.slice A xs.length c) := hb.cell 0
  have h1 : w.cell? ⟨b, 1, none⟩ = some (.bool true) := hb.cell 1
  clear hb ho hs
  go_enter Tryz.func20, Tryz.ntmps20
  go_wp2
  go_ret
  exact ⟨rfl, rfl⟩

/-- Which rows a span has: from the first bound to the second. -/
def bnds (lo hi : ByteArray) (xs : List Rw) : Nat × Nat := if rightB lo hi then (posR lo xs, if noneB hi then xs.length else posR hi xs) else (0, 0)
set_option maxHeartbeats 1000000 in
theorem bounds_any (w : World) (b : Nat) (v : Value) (xs : List Rw) (lo hi : ByteArray) (hc : w.cell? ⟨b, 0, none⟩ = some v) (ho : OwnR w v xs) (hs : Rising xs) (hB : xs.length ≤ 4398046511104) :
    Calls Tryz.prog 34 #[.pointer (some ⟨b, 0, none⟩), .agg #[.string lo, .string hi]] w fun e w' =>
      e = .returned (.tuple #[.int .i64 (bnds lo hi xs).1, .int .i64 (bnds lo hi xs).2]) ∧ Fr Nix w w' := by
  have hb : b < w.heap.size := World.block_lt_of_cell? w _ hc
  have HR := fun W => Lib.hid (right_any lo hi W)
  have HA := fun W key h1 h2 => Lib.hid (at_any W b v xs key h1 h2 hs hB)
  have hrd := Lib.hid ho.rd
  obtain ⟨A, l, c, e0⟩ : ∃ A l c, v = .slice A l c := ho.form
  have hl : Hid (l = xs.length) := by obtain ⟨_, A', c', e, _⟩ := ho.rd; rw [e] at e0; cases e0; rfl
  subst e0
  have HC := Lib.hid hc
  clear ho hs
  go_enter Tryz.func34, Tryz.ntmps34
  go_wp2_with fail
  refine (HR _).out.mono ?_
  rintro e w1 ⟨rfl, hw1⟩
  have F1 : Hid (Fr Nix w w1) := ((Fr.refl _ _).alloc _).nix hw1
  have d0 : w1.cell? ⟨w.heap.size, 0, none⟩ = some (.string lo) := hw1.cell' (by go_simp)
  have d1 : w1.cell? ⟨w.heap.size, 1, none⟩ = some (.string hi) := hw1.cell' (by go_simp)
  have hz := ups (show w.heap.size < w1.heap.size by have := hw1.size; rw [World.size_alloc] at this; omega)
  clear hw1 hc
  cases hr : rightB lo hi with
  | false =>
    have e1 : Hid (bnds lo hi xs = (0, 0)) := by show _ = _; unfold bnds; rw [hr]; rfl
    clear hr
    go_wp2_with fail
    go_ret2
    exact ⟨by rw [e1.out]; rfl, F1.out⟩
  | true =>
    have HRT := Lib.hid hr
    clear hr
    go_wp2_with fail
    refine (HA _ _ (F1.out.cell' HC.out) (hrd.out.nix F1.out)).out.mono ?_
    rintro e w2 ⟨rfl, hw2⟩
    have F2 : Hid (Fr Nix w w2) := F1.out.nix hw2
    have hc2 : w2.cell? ⟨b, 0, none⟩ = some (.slice A l c) := F2.out.cell' HC.out
    have d2 : w2.cell? ⟨w.heap.size, 1, none⟩ = some (.string hi) := hw2.cell' d1
    have e2 := empty_iff hi
    cases hn : noneB hi with
    | true =>
      rw [hn] at e2
      have e1 : Hid (bnds lo hi xs = (posR lo xs, xs.length)) := by show _ = _; unfold bnds; rw [HRT.out, hn]; rfl
      clear hn hw2
      go_wp2_with fail
      go_ret2
      exact ⟨by rw [e1.out, ← hl.out]; rfl, F2.out⟩
    | false =>
      rw [hn] at e2
      have e1 : Hid (bnds lo hi xs = (posR lo xs, posR hi xs)) := by show _ = _; unfold bnds; rw [HRT.out, hn]; rfl
      clear hn hw2
      go_wp2_with fail
      refine (HA _ _ hc2 (hrd.out.nix F2.out)).out.mono ?_
      rintro e w3 ⟨rfl, hw3⟩
      go_wp2_with fail
      go_ret2
      exact ⟨by rw [e1.out]; rfl, F2.out.nix hw3⟩

theorem bnds_le (lo hi : ByteArray) (xs : List Rw) (hs : Rising xs) : (bnds lo hi xs).1 ≤ (bnds lo hi xs).2 ∧ (bnds lo hi xs).2 ≤ xs.length := by
  unfold bnds
  split
  · rename_i hr
    dsimp only
    split
    · exact ⟨posR_le _ _, Nat.le_refl _⟩
    · rename_i hn
      refine ⟨?_, posR_le _ _⟩
      have hlt : ltB lo hi = true := by
        unfold rightB at hr
        simp [hn] at hr
        exact hr.2.2
      rcases Nat.lt_or_ge (posR hi xs) (posR lo xs) with h | h
      · exfalso
        have h1 := posR_le lo xs
        have h2 := pos_lt hs (key := lo) (posR hi xs) (by omega) h
        have h3 := pos_ge hs (key := hi) (posR hi xs) (by omega) (Nat.le_refl _)
        rw [ltB_trans h2 hlt] at h3
        cases h3
      · exact h
  · exact ⟨Nat.le_refl _, Nat.zero_le _⟩
/-- The rows of a span. -/
def inR (lo hi : ByteArray) (xs : List Rw) : List Rw := (xs.take (bnds lo hi xs).2).drop (bnds lo hi xs).1

theorem RdR.cut {w : World} {A : Option Addr} {c : Nat} {xs : List Rw} (h : RdR w (.slice A xs.length c) xs) (i j : Nat) (hij : i ≤ j) (hj : j ≤ xs.length) (A' : Option Addr) (c' : Nat)
    (hA : i < j → ∀ b off, A = some ⟨b, off, none⟩ → A' = some ⟨b, off + i * 2, none⟩) : RdR w (.slice A' (j - i) c') ((xs.take j).drop i) := by
  obtain ⟨hm, A0, c0, e, h⟩ := h
  cases e
  have hlen : ((xs.take j).drop i).length = j - i := by simp; omega
  refine ⟨by rw [hlen]; omega, A', c', by rw [hlen], ?_⟩
  by_cases hlt : i < j
  · rcases h with rfl | ⟨b, off, rfl, hb, hc⟩
    · simp at hj; omega
    · refine .inr ⟨b, off + i * 2, hA hlt b off rfl, hb, fun q hq => ?_⟩
      rw [hlen] at hq
      have := hc (i + q) (by omega)
      simp only [List.getElem_drop, List.getElem_take]
      rw [show off + i * 2 + q * 2 = off + (i + q) * 2 by omega]
      exact this
  · exact .inl (by rw [List.drop_eq_nil_iff]; simp; omega)

theorem bnds_nil (lo hi : ByteArray) : bnds lo hi [] = (0, 0) := by
  unfold bnds
  split
  · simp [posR]
  · rfl

set_option maxHeartbeats 2000000 in
theorem in_nil (w : World) (b : Nat) (lo hi : ByteArray) (hb : Blk w b [.slice none 0 0, .bool true] 58) :
    Calls Tryz.prog 16 #[.pointer (some ⟨b, 0, none⟩), .agg #[.string lo, .string hi]] w fun e w' =>
      ∃ v', e = .returned v' ∧ OwnR w' v' [] ∧ New w v' ∧ Fr Nix w w' := by
  have ho : OwnR w (.slice none 0 0) [] := World.ownsRow_nil _ _ _ _
  have h0 : w.cell? ⟨b, 0, none⟩ = some (.slice none 0 0) := hb.cell 0
  have h1 : w.cell? ⟨b, 1, none⟩ = some (.bool true) := hb.cell 1
  have hlt := hb.lt
  have HB := Lib.hid (bounds_any (w.alloc (.cells #[.string lo, .string hi] 36)).drew b (.slice none 0 0) [] lo hi (by go_simp) (World.ownsRow_nil _ _ _ _) List.Pairwise.nil (Nat.zero_le _))
  rw [bnds_nil] at HB
  clear hb ho
  go_enter Tryz.func16, Tryz.ntmps16
  go_wp2_with (go_at_call 25; refine (known_any _ _ true (by go_simp)).mono ?_; rintro e w' ⟨rfl, rfl⟩)
  go_region_with (go_at_call 34; refine HB.out.mono ?_; rintro e w1 ⟨rfl, hw1⟩)
  have F1 : Hid (Fr Nix w w1) := (((Fr.refl _ _).alloc _).drew).nix hw1
  have c0 : w1.cell? ⟨b, 0, none⟩ = some (.slice none 0 0) := F1.out.cell' h0
  clear hw1 h0 h1
  go_wp2_with fail
  refine (cloneR_any _ _ [] ⟨Nat.zero_le _, none, 0, rfl, .inl rfl⟩ (Nat.zero_le _)).mono ?_
  rintro e w2 ⟨v', rfl, h2, h3, h4⟩
  go_wp2
  go_ret
  exact ⟨_, rfl, h2, fun k hk => Nat.le_trans F1.out.size (h3 k hk), F1.out.nix h4⟩

set_option maxHeartbeats 2000000 in
theorem in_some (w : World) (b g cap : Nat) (xs : List Rw) (lo hi : ByteArray) (hb : Blk w b [.slice (some ⟨g, 0, none⟩) xs.length cap, .bool true] 58)
    (ho : OwnR w (.slice (some ⟨g, 0, none⟩) xs.length cap) xs) (hcap : xs.length ≤ cap) (hs : Rising xs) (hl : xs.length ≤ 400) :
    Calls Tryz.prog 16 #[.pointer (some ⟨b, 0, none⟩), .agg #[.string lo, .string hi]] w fun e w' =>
      ∃ v', e = .returned v' ∧ OwnR w' v' (inR lo hi xs) ∧ New w v' ∧ Fr Nix w w' := by
  have hbn := bnds_le lo hi xs hs
  have HI : Hid (inR lo hi xs = (xs.take (bnds lo hi xs).2).drop (bnds lo hi xs).1) := rfl
  have h0 : w.cell? ⟨b, 0, none⟩ = some (.slice (some ⟨g, 0, none⟩) xs.length cap) := hb.cell 0
  have h1 : w.cell? ⟨b, 1, none⟩ = some (.bool true) := hb.cell 1
  have hlt := hb.lt
  have HB := Lib.hid (bounds_any (w.alloc (.cells #[.string lo, .string hi] 36)).drew b _ xs lo hi (by go_simp) (ho.mono (((Fr.refl Nix _).alloc _).drew) (fun _ _ h => h)) hs (by omega))
  have hrd := Lib.hid ho.rd
  clear hb ho hs
  generalize bnds lo hi xs = q at hbn HI HB
  obtain ⟨i, j⟩ := q
  obtain ⟨hij, hj⟩ := hbn
  dsimp only at hij hj HI HB
  have hq1 : j ≤ cap := by omega
  have hq2 : (i : Int) ≤ (j : Int) := by omega
  have hq3 : (j : Int) ≤ (cap : Int) := by omega
  by_cases hic : cap = i
  · have hq4 : i ≤ cap := by omega
    go_enter Tryz.func16, Tryz.ntmps16
    go_wp2_with (go_at_call 25; refine (known_any _ _ true (by go_simp)).mono ?_; rintro e w' ⟨rfl, rfl⟩)
    go_region_with (go_at_call 34; refine HB.out.mono ?_; rintro e w1 ⟨rfl, hw1⟩)
    have F1 : Hid (Fr Nix w w1) := (((Fr.refl _ _).alloc _).drew).nix hw1
    have c0 : w1.cell? ⟨b, 0, none⟩ = some (.slice (some ⟨g, 0, none⟩) xs.length cap) := F1.out.cell' h0
    clear hw1 h0 h1
    go_wp2_with fail
    refine (cloneR_any _ _ ((xs.take j).drop i) ((hrd.out.nix F1.out).cut i j hij hj _ _ ?_) (by simp; omega)).mono ?_
    · intro h; omega
    rintro e w2 ⟨v', rfl, h2, h3, h4⟩
    go_wp2
    go_ret
    exact ⟨_, rfl, by rw [HI.out]; exact h2, fun k hk => Nat.le_trans F1.out.size (h3 k hk), F1.out.nix h4⟩
  · have hq4 : i ≤ cap := by omega
    go_enter Tryz.func16, Tryz.ntmps16
    go_wp2_with (go_at_call 25; refine (known_any _ _ true (by go_simp)).mono ?_; rintro e w' ⟨rfl, rfl⟩)
    go_region_with (go_at_call 34; refine HB.out.mono ?_; rintro e w1 ⟨rfl, hw1⟩)
    have F1 : Hid (Fr Nix w w1) := (((Fr.refl _ _).alloc _).drew).nix hw1
    have c0 : w1.cell? ⟨b, 0, none⟩ = some (.slice (some ⟨g, 0, none⟩) xs.length cap) := F1.out.cell' h0
    clear hw1 h0 h1
    go_wp2_with fail
    refine (cloneR_any _ _ ((xs.take j).drop i) ((hrd.out.nix F1.out).cut i j hij hj _ _ ?_) (by simp; omega)).mono ?_
    · intro _ b' off e
      cases e
      rw [Nat.zero_add]
    rintro e w2 ⟨v', rfl, h2, h3, h4⟩
    go_wp2
    go_ret
    exact ⟨_, rfl, by rw [HI.out]; exact h2, fun k hk => Nat.le_trans F1.out.size (h3 k hk), F1.out.nix h4⟩
theorem in_any (w : World) (b : Nat) (xs : List Rw) (lo hi : ByteArray) (h : IsT w b xs) :
    Calls Tryz.prog 16 #[.pointer (some ⟨b, 0, none⟩), .agg #[.string lo, .string hi]] w fun e w' =>
      ∃ v', e = .returned v' ∧ OwnR w' v' (inR lo hi xs) ∧ New w v' ∧ Fr Nix w w' := by
  obtain ⟨v, hb, ho, hne, hs, hl⟩ := h
  rcases ho.cases with ⟨rfl, rfl⟩ | ⟨g, cap, cur, rfl, _, h1, _⟩
  · have : inR lo hi [] = [] := by simp [inR]
    rw [this]
    exact in_nil w b lo hi hb
  · exact in_some w b g cap xs lo hi hb ho h1 hs hl
end Go.Proofs.YtnilbpofmohfhaaGreat
