/- Rows, third part: Insert of one row; put; Delete. -/
import Derived.Test.YtnilbpofmohfhaaGreatRowsB
import Derived.Test.YtnilbpofmohfhaaGreatBlk
import Derived.Deep.RegionLaw
import Derived.StillTailTactics
import Derived.Deep.RegionWith
namespace Go.Proofs.YtnilbpofmohfhaaGreat
open Go.RowKit

/-- Rows that are owned, seen as a block. -/
theorem OwnR.cases {w : World} {v : Value} {xs : List Rw} (h : OwnR w v xs) : (v = .slice none 0 0 ∧ xs = []) ∨
    ∃ g cap cur, v = .slice (some ⟨g, 0, none⟩) xs.length cap ∧ Blk w g cur 48 ∧ xs.length ≤ cap ∧ cap ≤ maxLen ∧ cur.length = cap * 2 ∧ cur.take (xs.length * 2) = cellsR xs := by
  obtain ⟨hl, ⟨rfl, h0⟩ | ⟨g, cap, cur, rfl, _, hg, h1, h2, h3, h4⟩⟩ := h
  · exact .inl ⟨rfl, List.eq_nil_of_length_eq_zero h0⟩
  · exact .inr ⟨g, cap, cur.toList, rfl, by rw [Blk, Array.toArray_toList]; exact hg, h1, h2, by rw [Array.length_toList]; exact h3, h4⟩
theorem OwnR.of_blk {w : World} {xs : List Rw} {g cap : Nat} {cur : List Value} (hb : Blk w g cur 48) (h1 : xs.length ≤ cap) (h2 : cap ≤ maxLen) (h3 : cur.length = cap * 2) (h4 : cur.take (xs.length * 2) = cellsR xs) :
    OwnR w (.slice (some ⟨g, 0, none⟩) xs.length cap) xs :=
  ⟨cellsR_length xs, .inr ⟨g, cap, cur.toArray, rfl, Nat.zero_le _, hb, h1, h2, by simpa using h3, by simpa using h4⟩⟩

set_option maxRecDepth 100000 in
set_option maxHeartbeats 4000000 in
theorem insert_end (w : World) (v : Value) (xs : List Rw) (x : Rw) (B : Nat) (ho : OwnR w v xs) (hx : Blk w B (cellsR [x]) 48) (hB : xs.length < 4398046511104) :
    Calls Tryz.prog 94 #[v, .int .i64 (xs.length : Nat), .slice (some ⟨B, 0, none⟩) 1 1] w fun e w' =>
      ∃ v', e = .returned v' ∧ OwnR w' v' (xs ++ [x]) ∧ Fr (Foot v) w w' ∧ (v'.ownBlock = v.ownBlock ∨ v'.ownBlock = some w.heap.size) := by
  obtain ⟨i0, hi, hz0, hz1, hz2⟩ := info_parts infoRow
  have HX : Hid (Src w 2 (.slice (some ⟨B, 0, none⟩) 1 1) 1 (cellsR [x])) := ⟨rfl, cellsR_one _, _, 1, rfl, (fun h => by cases h), fun ad h j u hu => by cases h; rw [addr_add]; exact hx.cellsAt j u hu⟩
  have HO := Lib.hid ho
  have hcs := ho.cases
  clear hx ho
  rcases hcs with ⟨rfl, rfl⟩ | ⟨g, cap, cur, rfl, hb, h1, h2, h3, h4⟩
  · go_enter Tryz.func94, Tryz.ntmps94
    go_wp2_with (at_builtin; refine wp_append rfl _ _ 29 rfl 48 i0 _ 2 32 Tryz.underlying29 hi hz0 hz1 hz2 rfl (by decide) _ 0 [] rfl ?c1 _ rfl 1 (cellsR [x]) ?c2 ?c3 ?c4 ?c5)
    case c1 => exact HO.out
    case c2 => exact HX.out
    case c3 => simp only [maxLen]; omega
    case c4 => omega
    case c5 =>
      intro v' w' h1 hf hat
      go_wp2
      go_ret
      exact ⟨_, rfl, h1, hf, hat⟩
  · have HC : Hid (Blk w g cur 48 ∧ cur.length = cap * 2 ∧ cur.take (xs.length * 2) = cellsR xs) := ⟨hb, h3, h4⟩
    clear hb h3 h4
    simp only [maxLen] at h2
    rcases Nat.lt_or_ge xs.length cap with hlt | hge
    · go_enter Tryz.func94, Tryz.ntmps94
      go_wp2_with (at_builtin; refine wp_append rfl _ _ 29 rfl 48 i0 _ 2 32 Tryz.underlying29 hi hz0 hz1 hz2 rfl (by decide) _ xs.length (cellsR xs) rfl ?c1 _ rfl 1 (cellsR [x]) ?c2 ?c3 ?c4 ?c5)
      case c1 => exact HO.out
      case c2 => exact HX.out
      case c3 => simp only [maxLen]; omega
      case c4 => omega
      case c5 =>
        intro v' w' h1 hf hat
        go_wp2
        go_ret
        exact ⟨_, rfl, by rw [OwnR, cellsR_append, List.length_append]; exact h1, hf, hat⟩
    · obtain rfl : cap = xs.length := by omega
      go_enter Tryz.func94, Tryz.ntmps94
      go_wp2_with (at_builtin; refine wp_append rfl _ _ 29 rfl 48 i0 _ 2 32 Tryz.underlying29 hi hz0 hz1 hz2 rfl (by decide) _ xs.length (cellsR xs) rfl ?c1 _ rfl 1 (cellsR [x]) ?c2 ?c3 ?c4 ?c5)
      case c1 => exact HO.out
      case c2 => exact HX.out
      case c3 => simp only [maxLen]; omega
      case c4 => omega
      case c5 =>
        intro v' w' h1 hf hat
        go_wp2
        go_ret
        exact ⟨_, rfl, by rw [OwnR, cellsR_append, List.length_append]; exact h1, hf, hat⟩

theorem szRow : (Tryz.prog.info? 48).map (·.size) = some 2 := by kernel_rfl
theorem zeroRow : (Tryz.prog.info? 48).map (fun i => (i.zero, i.size)) = some (some (.agg #[.string ⟨#[]⟩, .string ⟨#[]⟩]), 2) := by kernel_rfl

set_option maxRecDepth 100000 in
set_option maxHeartbeats 1000000 in
theorem insert_grow (w : World) (g : Nat) (cur : List Value) (xs : List Rw) (x : Rw) (B i : Nat) (hb : Blk w g cur 48) (h4 : cur.take (xs.length * 2) = cellsR xs) (hx : Blk w B (cellsR [x]) 48)
    (hi : i < xs.length) (hB : xs.length < 4398046511104) :
    Calls Tryz.prog 94 #[.slice (some ⟨g, 0, none⟩) xs.length xs.length, .int .i64 (i : Nat), .slice (some ⟨B, 0, none⟩) 1 1] w fun e w' =>
      ∃ v', e = .returned v' ∧ OwnR w' v' (xs.take i ++ [x] ++ xs.drop i) ∧ Fr Nix w w' ∧ v'.ownBlock = some w.heap.size := by
  have hw := Lib.hid (Fr.refl Nix w)
  have HB := Lib.hid hb
  have HX := Lib.hid hx
  have H4 := Lib.hid h4
  clear hb hx h4
  have hbl : Hid (∀ j u, (cellsR (xs.take i))[j]? = some u → w.cell? ((⟨g, 0, none⟩ : Addr).add j) = some u) := by
    intro j u hu
    rw [addr_add]
    refine HB.out.cellsAt j u ?_
    have : (cellsR xs)[j]? = some u := by
      have e := List.take_append_drop i xs
      rw [← e, cellsR_append, List.getElem?_append_left (List.getElem?_eq_some_iff.1 hu).1]
      exact hu
    rw [← H4.out] at this
    rw [List.getElem?_take] at this
    split at this
    · exact this
    · cases this
  obtain ⟨w1, cap1, cur1, hr1, hb1, hc1, hm1, hl1, ht1, hf1⟩ := run_zeros_blk (P := Tryz.prog) (w := w) (t := 29) (tn := 3) (ty := 29) (e := 48) (kn := .i64) Tryz.underlying29 Tryz.underlying3 infoRow rfl (by decide)
    (n := i) (cap := xs.length) (k := xs.length + 1 - i) hbl.out (by rw [cellsR_length, List.length_take, Nat.min_eq_left (by omega)]) (by omega) (by omega) (by omega) (by omega)
  rw [show i + (xs.length + 1 - i) = xs.length + 1 by omega] at hr1 hc1
  have ek : ((xs.length + 1 - i : Nat) : Int) = (xs.length : Int) + 1 - (i : Int) := by omega
  rw [ek] at hr1
  have HR1 := Lib.hid hr1
  have HF1 := Lib.hid hf1
  have HB1 : Hid (Blk w1 w.heap.size cur1 48 ∧ cur1.length = cap1 * 2 ∧ cur1.take (i * 2) = cellsR (xs.take i)) := ⟨hb1, hl1, ht1⟩
  clear hr1 hf1 hb1 hl1 ht1 ek hbl
  simp only [maxLen] at hm1
  have hic : i < cap1 := by omega
  have hic2 : i + 1 < cap1 := by omega
  have hne : g ≠ w.heap.size := Nat.ne_of_lt HB.out.lt
  have hlB : B ≠ w.heap.size := Nat.ne_of_lt HX.out.lt
  have hsB : Blk w1 B (cellsR [x]) 48 := HX.out.mono HF1.out (fun h => h)
  have hsg : Blk w1 g cur 48 := HB.out.mono HF1.out (fun h => h)
  have hcl : (cellsR [x]).length = 2 := rfl
  have hmin1 : Nat.min 1 (xs.length + 1 - i) = 1 := Nat.min_eq_left (by omega)
  obtain ⟨w2, hr2, hb2, hf2⟩ := run_copy_blk (P := Tryz.prog) (w := w1) (dT := 29) (sT := 29) (ty := 3) (dl := xs.length + 1 - i) (dc := cap1 - i) (off := i * 2) (m := 1) (c := 1) Tryz.underlying29 szRow HB1.out.1
    (cs := cellsR [x]) (ad := ⟨B, 0, none⟩) (by rw [hmin1]; rfl) (fun j u hu => by rw [addr_add]; exact hsB.cellsAt j u hu) (by rw [HB1.out.2.1, hcl]; omega) (cellsR_one _)
  have hsg2 : Blk w2.drew g cur 48 := hsg.mono (hf2.drew) hne
  have hb2' : Blk w2.drew w.heap.size (splice cur1 (i * 2) (cellsR [x])) 48 := hb2
  have hdl : (cellsR (xs.drop i)).length = (xs.length - i) * 2 := by rw [cellsR_length, List.length_drop]
  have hsl : (splice cur1 (i * 2) (cellsR [x])).length = cap1 * 2 := by rw [length_splice _ _ _ (by rw [hcl, HB1.out.2.1]; omega), HB1.out.2.1]
  have hmin2 : Nat.min (xs.length - i) (xs.length + 1 - (i + 1)) = xs.length - i := Nat.min_eq_left (by omega)
  obtain ⟨w3, hr3, hb3, hf3⟩ := run_copy_blk (P := Tryz.prog) (w := w2.drew) (dT := 29) (sT := 29) (ty := 3) (dl := xs.length + 1 - (i + 1)) (dc := cap1 - (i + 1)) (off := (i + 1) * 2) (m := xs.length - i) (c := xs.length - i) Tryz.underlying29 szRow hb2'
    (cs := cellsR (xs.drop i)) (ad := ⟨g, i * 2, none⟩) (by rw [hmin2]; exact hdl) (fun j u hu => by
      rw [addr_add, hsg2.cell]
      have e := List.take_append_drop i xs
      have h1 : (cellsR xs)[i * 2 + j]? = some u := by
        rw [← e, cellsR_append, List.getElem?_append_right (by rw [cellsR_length, List.length_take]; omega), cellsR_length, List.length_take, Nat.min_eq_left (by omega), show i * 2 + j - i * 2 = j by omega]
        exact hu
      rw [← H4.out, List.getElem?_take] at h1
      split at h1
      · exact h1
      · cases h1) (by rw [hdl, hsl]; omega) (cellsR_one _)
  have HR2 := Lib.hid hr2
  have HR3 := Lib.hid hr3
  have FIN : Hid (OwnR w3 (.slice (some ⟨w.heap.size, 0, none⟩) (xs.length + 1) cap1) (xs.take i ++ [x] ++ xs.drop i) ∧ Fr Nix w w3) := by
    constructor
    · have ht1 := splice_take (cs := cellsR [x]) HB1.out.2.2 (by rw [HB1.out.2.1]; omega)
      have ht2 := splice_take (cs := cellsR (xs.drop i)) ht1 (by rw [hsl, hcl]; omega)
      have hlen : (xs.take i ++ [x] ++ xs.drop i).length = xs.length + 1 := by simp; omega
      have := OwnR.of_blk (xs := xs.take i ++ [x] ++ xs.drop i) hb3 (by rw [hlen]; exact hc1) (by simp only [maxLen]; exact hm1) (by rw [length_splice _ _ _ (by rw [hdl, hsl]; omega), hsl]) (by
        rw [hlen, cellsR_append, cellsR_append, ← ht2, hcl, hdl, show (i + 1) * 2 = i * 2 + 2 by omega]
        congr 1
        omega)
      rw [hlen] at this
      exact this
    · exact (HF1.out.then hf2 (fun k hk h => by omega)).drew.then hf3 (fun k hk h => by omega)
  clear hr2 hr3 hb2 hb3 hf2 hf3 hsB hsg hsg2 hb2' hdl hsl hmin1 hmin2 hne hlB hcl hw
  have hs1 : IntKind.i64.wrap ((i : Int) + 1) = (i : Int) + 1 := IntWalk.i64_in _ (by omega)
  have hs2 : (0 : Int) ≤ (i : Int) + 1 := by omega
  have hs3 : ((i : Int) + 1).toNat = i + 1 := by omega
  have hs4 : (i : Int) + 1 ≤ (xs.length : Int) + 1 := by omega
  have hq1 : i ≤ xs.length := by omega
  have hq2 : ¬ xs.length = i := by omega
  have hq4 : ¬ cap1 = i + 1 := by omega
  go_enter Tryz.func94, Tryz.ntmps94
  go_wp2_with (first | (refine Lib.wpList_append_run _ rfl _ _ _ _ rfl _ _ rfl rfl _ _ HR1.out ?_) | (refine wp_copy_run rfl _ _ _ _ rfl _ _ rfl rfl _ _ HR2.out ?_))
  go_still_tail 8, (by kernel_rfl)
  change wpList _ _ _ _ _ w2.drew
  obtain ⟨vd, evd⟩ : ∃ vd, vd = Value.slice (some ⟨w.heap.size, (i + 1) * 2, none⟩) (xs.length + 1 - (i + 1)) (cap1 - (i + 1)) := ⟨_, rfl⟩
  rw [← evd] at HR3
  refine wp_copy_run rfl (.tmp 50) (.tmp 53) _ _ rfl vd _ ?_ rfl _ _ HR3.out ?_
  · rw [evd]
    simp [Act.eval]
  go_wp2
  go_ret
  exact ⟨_, rfl, FIN.out.1, FIN.out.2, rfl⟩

theorem cells_drop {xs : List Rw} {cur : List Value} {i : Nat} (hi : i ≤ xs.length) (h4 : cur.take (xs.length * 2) = cellsR xs) (j : Nat) (u : Value) (hu : (cellsR (xs.drop i))[j]? = some u) : cur[i * 2 + j]? = some u := by
  have e := List.take_append_drop i xs
  have h1 : (cellsR xs)[i * 2 + j]? = some u := by
    rw [← e, cellsR_append, List.getElem?_append_right (by rw [cellsR_length, List.length_take]; omega), cellsR_length, List.length_take, Nat.min_eq_left (by omega), show i * 2 + j - i * 2 = j by omega]
    exact hu
  rw [← h4, List.getElem?_take] at h1
  split at h1
  · exact h1
  · cases h1
theorem cells_take {xs : List Rw} {cur : List Value} {i : Nat} (hi : i ≤ xs.length) (h4 : cur.take (xs.length * 2) = cellsR xs) : cur.take (i * 2) = cellsR (xs.take i) := by
  have e := List.take_append_drop i xs
  have h1 : (cellsR xs).take (i * 2) = cellsR (xs.take i) := by
    rw [← e, cellsR_append, List.take_append_of_le_length (by rw [cellsR_length, List.length_take]; omega), List.take_append_drop]
    exact List.take_of_length_le (by rw [cellsR_length, List.length_take]; omega)
  rw [← h1, ← h4, List.take_take, Nat.min_eq_left (by omega)]
theorem sizeRow (w : World) : (Go.sizeOf 48).run Tryz.prog w = .ok 2 w := by kernel_rfl
set_option maxRecDepth 100000 in
theorem overlaps_no (w : World) (B g : Nat) (cs cur : List Value) (T T' : TypeId) (hB : Blk w B cs T) (hg : Blk w g cur T') (hne : B ≠ g) (h0 : cur.length ≠ 0) (off la ca lb cb : Nat) :
    (callFunc 135 #[.slice (some ⟨B, 0, none⟩) la ca, .slice (some ⟨g, off, none⟩) lb cb]).run Tryz.prog w = .ok (.value (.bool false)) w := by
  rw [run_callFunc_extern Tryz.func135 (by kernel_rfl) (by kernel_rfl) (by kernel_rfl) (e := Extern.SlicesOverlaps.overlaps #[29, 29] #[4]) (by kernel_rfl),
    Lib.run_overlaps_apart w 29 4 48 Tryz.underlying29 2 sizeRow ⟨B, 0, none⟩ ⟨g, off, none⟩ la ca lb cb hne T T' cs.length cur.length hB.shape hg.shape h0 (hB.frozen 0) (hB.frozen _)]
  rfl

set_option maxRecDepth 100000 in
set_option maxHeartbeats 1000000 in
theorem insert_room (w : World) (g cap : Nat) (cur : List Value) (xs : List Rw) (x : Rw) (B i : Nat) (hb : Blk w g cur 48) (h3 : cur.length = cap * 2) (h4 : cur.take (xs.length * 2) = cellsR xs) (hx : Blk w B (cellsR [x]) 48)
    (hne : B ≠ g) (hi : i < xs.length) (hc : xs.length < cap) (hm : cap ≤ maxLen) :
    Calls Tryz.prog 94 #[.slice (some ⟨g, 0, none⟩) xs.length cap, .int .i64 (i : Nat), .slice (some ⟨B, 0, none⟩) 1 1] w fun e w' =>
      ∃ v', e = .returned v' ∧ OwnR w' v' (xs.take i ++ [x] ++ xs.drop i) ∧ Fr (fun k => k = g) w w' ∧ v'.ownBlock = some g := by
  have hov := overlaps_no w B g _ _ _ _ hx hb hne (by omega)
  have hcl : (cellsR [x]).length = 2 := rfl
  have hdl : (cellsR (xs.drop i)).length = (xs.length - i) * 2 := by rw [cellsR_length, List.length_drop]
  have hmin2 : Nat.min (xs.length + 1 - i) (xs.length + 1 - (i + 1)) = xs.length - i := by rw [show xs.length + 1 - (i + 1) = xs.length - i by omega]; exact Nat.min_eq_right (by omega)
  have hbd : Blk w.drew g cur 48 := hb
  obtain ⟨w2, hr2, hb2, hf2⟩ := run_copy_blk (P := Tryz.prog) (w := w.drew) (dT := 29) (sT := 29) (ty := 3) (dl := xs.length + 1 - (i + 1)) (dc := cap - (i + 1)) (off := (i + 1) * 2) (m := xs.length + 1 - i) (c := cap - i) Tryz.underlying29 szRow hbd
    (cs := cellsR (xs.drop i)) (ad := ⟨g, i * 2, none⟩) (by rw [hmin2]; exact hdl) (fun j u hu => by rw [addr_add, hbd.cell]; exact cells_drop (by omega) h4 j u hu) (by rw [hdl, h3]; omega) (cellsR_one _)
  have hsl : (splice cur ((i + 1) * 2) (cellsR (xs.drop i))).length = cap * 2 := by rw [length_splice _ _ _ (by rw [hdl, h3]; omega), h3]
  have hmin1 : Nat.min 1 (xs.length + 1 - i) = 1 := Nat.min_eq_left (by omega)
  have hsB : Blk w2 B (cellsR [x]) 48 := (show Blk w.drew B _ _ from hx).mono hf2 hne
  obtain ⟨w3, hr3, hb3, hf3⟩ := run_copy_blk (P := Tryz.prog) (w := w2) (dT := 29) (sT := 29) (ty := 3) (dl := xs.length + 1 - i) (dc := cap - i) (off := i * 2) (m := 1) (c := 1) Tryz.underlying29 szRow hb2
    (cs := cellsR [x]) (ad := ⟨B, 0, none⟩) (by rw [hmin1]; rfl) (fun j u hu => by rw [addr_add]; exact hsB.cellsAt j u hu) (by rw [hsl, hcl]; omega) (cellsR_one _)
  have FIN : Hid (OwnR w3 (.slice (some ⟨g, 0, none⟩) (xs.length + 1) cap) (xs.take i ++ [x] ++ xs.drop i) ∧ Fr (fun k => k = g) w w3) := by
    constructor
    · have ht := splice_two cur (cellsR (xs.drop i)) (cellsR [x]) (i * 2) 2 hcl (by rw [hdl, h3]; omega)
      have hlen : (xs.take i ++ [x] ++ xs.drop i).length = xs.length + 1 := by simp; omega
      rw [show i * 2 + 2 = (i + 1) * 2 by omega, hdl] at ht
      have := OwnR.of_blk (xs := xs.take i ++ [x] ++ xs.drop i) hb3 (by rw [hlen]; omega) hm (by rw [length_splice _ _ _ (by rw [hsl, hcl]; omega), hsl]) (by
        rw [hlen, cellsR_append, cellsR_append, ← cells_take (by omega) h4, ← ht]
        congr 1
        omega)
      rw [hlen] at this
      exact this
    · exact ((Fr.refl (fun k => k = g) w).drew.trans hf2).trans hf3
  simp only [maxLen] at hm
  have HR2 := Lib.hid hr2
  have HR3 := Lib.hid hr3
  clear hr2 hr3 hb2 hb3 hf2 hf3 hbd hsB hdl hsl hmin1 hmin2 hcl hb hx h3 h4
  have hs1 : IntKind.i64.wrap ((i : Int) + 1) = (i : Int) + 1 := IntWalk.i64_in _ (by omega)
  have hs2 : (0 : Int) ≤ (i : Int) + 1 := by omega
  have hs3 : ((i : Int) + 1).toNat = i + 1 := by omega
  have hq1 : i ≤ xs.length := by omega
  have hq2 : ¬ cap = i := by omega
  have hq4 : ¬ cap = i + 1 := by omega
  have hq5 : xs.length + 1 ≤ cap := by omega
  have hq6 : i ≤ xs.length + 1 := by omega
  have hq7 : (i : Int) ≤ (xs.length : Int) + 1 := by omega
  go_enter Tryz.func94, Tryz.ntmps94
  go_wp2_with (fail)
  go_still_tail 8, (by kernel_rfl)
  change wpList _ _ _ _ _ w.drew
  refine wp_copy_run rfl (.tmp 73) (.tmp 76) _ _ rfl (.slice (some ⟨g, (i + 1) * 2, none⟩) (xs.length + 1 - (i + 1)) (cap - (i + 1))) _ (by simp [Act.eval]) rfl _ _ HR2.out ?_
  go_wp2_with (refine wp_copy_run rfl _ _ _ _ rfl _ _ rfl rfl _ _ HR3.out ?_)
  go_ret
  exact ⟨_, rfl, FIN.out.1, FIN.out.2, rfl⟩

/-- A row put among rising rows. -/
def putR (x : Rw) (xs : List Rw) : List Rw := if hitR x.k xs then xs.set (posR x.k xs) x else xs.take (posR x.k xs) ++ [x] ++ xs.drop (posR x.k xs)

set_option maxRecDepth 100000 in
theorem insert_any (w : World) (v : Value) (xs : List Rw) (x : Rw) (B i : Nat) (ho : OwnR w v xs) (hx : Blk w B (cellsR [x]) 48) (hne : v.ownBlock ≠ some B) (hi : i ≤ xs.length) (hB : xs.length < 4398046511104) :
    Calls Tryz.prog 94 #[v, .int .i64 (i : Nat), .slice (some ⟨B, 0, none⟩) 1 1] w fun e w' =>
      ∃ v', e = .returned v' ∧ OwnR w' v' (xs.take i ++ [x] ++ xs.drop i) ∧ Fr (Foot v) w w' ∧ (v'.ownBlock = v.ownBlock ∨ v'.ownBlock = some w.heap.size) := by
  by_cases he : i = xs.length
  · subst he
    refine (insert_end w v xs x B ho hx hB).mono ?_
    rintro e w' ⟨v', h1, h2, h3, h4⟩
    exact ⟨v', h1, by rw [List.take_length, List.drop_length, List.append_nil]; exact h2, h3, h4⟩
  have hlt : i < xs.length := by omega
  rcases ho.cases with ⟨rfl, rfl⟩ | ⟨g, cap, cur, rfl, hb, h1, h2, h3, h4⟩
  · cases hlt
  · by_cases hc : xs.length < cap
    · refine (insert_room w g cap cur xs x B i hb h3 h4 hx (by rintro rfl; exact hne rfl) hlt hc h2).mono ?_
      rintro e w' ⟨v', h1, h2, h3, h4⟩
      exact ⟨v', h1, h2, h3.mono (fun k _ h => by rw [h]; rfl), .inl h4⟩
    · obtain rfl : cap = xs.length := by omega
      refine (insert_grow w g cur xs x B i hb h4 hx hlt hB).mono ?_
      rintro e w' ⟨v', h1, h2, h3, h4⟩
      exact ⟨v', h1, h2, h3.any, .inr h4⟩

set_option maxHeartbeats 2000000 in
theorem put_new (w : World) (b : Nat) (v : Value) (xs : List Rw) (x : Rw) (hc : w.cell? ⟨b, 0, none⟩ = some v) (hf : w.frozen? ⟨b, 0, none⟩ = false) (ho : OwnR w v xs) (hs : Rising xs) (hh : hitR x.k xs = false) (hne : v.ownBlock ≠ some b) (hB : xs.length < 4398046511104) :
    Calls Tryz.prog 46 #[.pointer (some ⟨b, 0, none⟩), x.val] w fun e w' =>
      e = .returned (.tuple #[]) ∧ w'.frozen? ⟨b, 0, none⟩ = false ∧ ∃ v', w'.cell? ⟨b, 0, none⟩ = some v' ∧ OwnR w' v' (putR x xs) ∧ Fr (fun k => k = b ∨ Foot v k) w w' ∧ (v'.ownBlock = v.ownBlock ∨ ∃ k, v'.ownBlock = some k ∧ w.heap.size ≤ k) := by
  obtain ⟨k, vv⟩ := x
  unfold Rw.val
  have hb : b < w.heap.size := World.block_lt_of_cell? w _ hc
  have hP := Lib.hid (posR_le k xs)
  have HA := fun W v h1 h2 => Lib.hid (at_any W b v xs k h1 h2 hs (by omega))
  have HO := Lib.hid ho
  have HS := Lib.hid hs
  have HH := Lib.hid hh
  have HC := Lib.hid hc
  clear hs hh ho
  go_enter Tryz.func46, Tryz.ntmps46
  go_wp2_with fail
  refine (HA _ v (by go_simp) (HO.out.rd.nix ((Fr.refl _ _).alloc _))).out.mono ?_
  rintro e w1 ⟨rfl, h1⟩
  rw [HH.out]
  have F1 : Hid (Fr Nix w w1) := ((Fr.refl _ _).alloc _).nix h1
  have hz := ups (show w.heap.size < w1.heap.size by have := h1.size; rw [World.size_alloc] at this; omega)
  have hz2 := ups (show b < w1.heap.size by omega)
  have d0 : w1.cell? ⟨w.heap.size, 0, none⟩ = some (.string k) := h1.cell' (by go_simp)
  have d1 : w1.cell? ⟨w.heap.size, 1, none⟩ = some (.string vv) := h1.cell' (by go_simp)
  have hcb : w1.cell? ⟨b, 0, none⟩ = some v := F1.out.cell' hc
  have hfb : w1.frozen? ⟨b, 0, none⟩ = false := (F1.out.frozen (p := ⟨b, 0, none⟩) hb (fun h => h)).trans hf
  have O1 : Hid (OwnR w1 v xs) := HO.out.mono F1.out (fun _ _ h => h)
  have hvn : v.ownBlock ≠ some w1.heap.size := fun h => by have := own_lt O1.out _ h; omega
  have HI := Lib.hid (insert_any (w1.alloc (.cells #[.string k, .string vv] 48)).drew v xs ⟨k, vv⟩ w1.heap.size (posR k xs) (O1.out.mono (((Fr.refl Nix _).alloc _).drew) (fun _ _ h => h)) (Blk.new w1 (cellsR [⟨k, vv⟩]) _) hvn hP.out hB)
  clear h1 HA hc hf hvn
  go_wp2_with fail
  go_region_with (go_at_call 94; refine HI.out.mono ?_; rintro e w2 ⟨v', rfl, h2, h3, h4⟩; obtain ⟨A', l', n', rfl⟩ := h2.form; have c2 : w2.cell? ⟨b, 0, none⟩ = some v := (h3.cell (p := ⟨b, 0, none⟩) (by simp; omega) hne).trans (by go_simp); have f2 : w2.frozen? ⟨b, 0, none⟩ = false := (h3.frozen (p := ⟨b, 0, none⟩) (by simp; omega) hne).trans (by go_simp); replace h2 := Lib.hid h2; replace h3 := Lib.hid h3; replace h4 := Lib.hid h4)
  all_goals
    go_wp2
    go_end0
    refine ⟨rfl, by rw [World.frozen?_setCell]; exact f2, _, cell_set _ _ _ _ c2, ?_, ?_, ?_⟩
    · have e1 : putR ⟨k, vv⟩ xs = xs.take (posR k xs) ++ [⟨k, vv⟩] ++ xs.drop (posR k xs) := by unfold putR; rw [HH.out]; rfl
      rw [e1]
      refine h2.out.mono (((Fr.refl (fun k => k = b) _)).setCell (p := ⟨b, 0, none⟩) (.inr rfl) _) (fun j hj e => ?_)
      subst e
      rcases h4.out with h | h
      · rw [h] at hj; exact hne hj
      · rw [h] at hj
        cases hj
        have := F1.out.size
        simp at hb
        omega
    · refine Fr.setCell (p := ⟨b, 0, none⟩) ?_ (.inr (.inl rfl)) _
      exact ((F1.out.any.alloc _).drew).then h3.out (fun k _ h => .inr h)
    · rcases h4.out with h | h
      · exact .inl h
      · exact .inr ⟨_, h, by have := F1.out.size; simp; omega⟩

theorem hit_at {k : ByteArray} {xs : List Rw} (h : hitR k xs = true) : ∃ h : posR k xs < xs.length, xs[posR k xs].k = k := by
  unfold hitR at h
  split at h
  · rename_i x hx
    obtain ⟨h1, h2⟩ := List.getElem?_eq_some_iff.1 hx
    exact ⟨h1, by rw [h2]; simpa using h⟩
  · cases h
theorem cellsR_set : ∀ (xs : List Rw) (i : Nat) (x : Rw), cellsR (xs.set i x) = ((cellsR xs).set (i * 2) (.string x.k)).set (i * 2 + 1) (.string x.v)
  | [], i, x => by simp [cellsR]
  | y :: r, 0, x => rfl
  | y :: r, i + 1, x => by
    rw [show (i + 1) * 2 = i * 2 + 1 + 1 by omega, List.set_cons_succ]
    simp only [cellsR, List.set_cons_succ]
    rw [cellsR_set r i x]
theorem take_set_set {α : Type} (L : List α) (n i : Nat) (u v : α) (h : i + 1 < n) : ((L.set i u).set (i + 1) v).take n = ((L.take n).set i u).set (i + 1) v := by
  rw [List.take_set, List.take_set]

set_option maxHeartbeats 2000000 in
theorem put_hit (w : World) (b : Nat) (v : Value) (xs : List Rw) (x : Rw) (hc : w.cell? ⟨b, 0, none⟩ = some v) (hf : w.frozen? ⟨b, 0, none⟩ = false) (ho : OwnR w v xs) (hs : Rising xs) (hh : hitR x.k xs = true) (hne : v.ownBlock ≠ some b) (hB : xs.length < 4398046511104) :
    Calls Tryz.prog 46 #[.pointer (some ⟨b, 0, none⟩), x.val] w fun e w' =>
      e = .returned (.tuple #[]) ∧ w'.frozen? ⟨b, 0, none⟩ = false ∧ w'.cell? ⟨b, 0, none⟩ = some v ∧ OwnR w' v (putR x xs) ∧ Fr (Foot v) w w' := by
  obtain ⟨k, vv⟩ := x
  unfold Rw.val
  have hb : b < w.heap.size := World.block_lt_of_cell? w _ hc
  obtain ⟨hp, hk⟩ := hit_at hh
  replace hp : posR k xs < xs.length := hp
  have HKEY := Lib.hid hk
  have HA := fun W v h1 h2 => Lib.hid (at_any W b v xs k h1 h2 hs (by omega))
  have hrd := ho.rd
  have hcs := ho.cases
  have HS := Lib.hid hs
  have HH := Lib.hid hh
  have HC := Lib.hid hc
  rcases hcs with ⟨rfl, rfl⟩ | ⟨g, cap, cur, rfl, hbl, h1, h2, h3, h4⟩
  · cases hp
  have HO := Lib.hid ho
  clear hs hh ho hk
  go_enter Tryz.func46, Tryz.ntmps46
  go_wp2_with fail
  refine (HA _ _ (by go_simp) (hrd.nix ((Fr.refl _ _).alloc _))).out.mono ?_
  rintro e w1 ⟨rfl, hw1⟩
  rw [HH.out]
  have F1 : Hid (Fr Nix w w1) := ((Fr.refl _ _).alloc _).nix hw1
  have hgl : g < w.heap.size := hbl.lt
  have hz := ups (show w.heap.size < w1.heap.size by have := hw1.size; rw [World.size_alloc] at this; omega)
  have d0 : w1.cell? ⟨w.heap.size, 0, none⟩ = some (.string k) := hw1.cell' (by go_simp)
  have d1 : w1.cell? ⟨w.heap.size, 1, none⟩ = some (.string vv) := hw1.cell' (by go_simp)
  have HFZ : Hid (w1.frozen? ⟨b, 0, none⟩ = false) := (F1.out.frozen (p := ⟨b, 0, none⟩) hb (fun h => h)).trans hf
  have hcb : w1.cell? ⟨b, 0, none⟩ = some (.slice (some ⟨g, 0, none⟩) xs.length cap) := F1.out.cell' hc
  have HB1 : Hid (Blk w1 g cur 48) := hbl.mono F1.out (fun h => h)
  have hgb : ¬ g = b := fun e => hne (by rw [e]; rfl)
  have hi0 : posR k xs * 2 < cur.length := by omega
  have hi1 : posR k xs * 2 + 1 < cur.length := by omega
  have g0 : w1.cell? ⟨g, posR k xs * 2, none⟩ = some cur[posR k xs * 2] := by rw [HB1.out.cell, List.getElem?_eq_getElem hi0]
  have g1 : w1.cell? ⟨g, posR k xs * 2 + 1, none⟩ = some cur[posR k xs * 2 + 1] := by rw [HB1.out.cell, List.getElem?_eq_getElem hi1]
  have g2 : w1.frozen? ⟨g, posR k xs * 2, none⟩ = false := HB1.out.frozen _
  have g3 : w1.frozen? ⟨g, posR k xs * 2 + 1, none⟩ = false := HB1.out.frozen _
  generalize cur[posR k xs * 2] = q0 at g0
  generalize cur[posR k xs * 2 + 1] = q1 at g1
  have H34 : Hid (cur.length = cap * 2 ∧ cur.take (xs.length * 2) = cellsR xs) := ⟨h3, h4⟩
  clear hw1 HA hc hrd hbl h3 h4 hi0 hi1 hf
  go_wp2_with fail
  go_region
  all_goals
    go_wp2
    go_end0
    refine ⟨rfl, ?_, by go_simp, ?_, ?_⟩
    · show (World.setCell _ _ _).frozen? _ = false
      rw [World.frozen?_setCell, World.frozen?_setCell]
      exact HFZ.out
    · have e1 : putR ⟨k, vv⟩ xs = xs.set (posR k xs) ⟨k, vv⟩ := by unfold putR; rw [HH.out]; rfl
      rw [e1]
      have hb2 := (HB1.out.set (posR k xs * 2) (.string k)).set (posR k xs * 2 + 1) (.string vv)
      have := OwnR.of_blk (xs := xs.set (posR k xs) ⟨k, vv⟩) hb2 (by rw [List.length_set]; exact h1) h2 (by simp [H34.out.1]) (by
        rw [List.length_set, take_set_set _ _ _ _ _ (by omega), H34.out.2, cellsR_set])
      rw [List.length_set] at this
      exact this
    · have FF : Fr (Foot (.slice (some ⟨g, 0, none⟩) xs.length cap)) w w1 := F1.out.any
      have F2 := FF.setCell (p := ⟨g, posR k xs * 2, none⟩) (.inr rfl) (.string k)
      exact (F2.setCell (p := ⟨g, posR k xs * 2 + 1, none⟩) (.inr rfl) _).drew

set_option maxHeartbeats 2000000 in
theorem put_any (w : World) (b : Nat) (v : Value) (xs : List Rw) (x : Rw) (hc : w.cell? ⟨b, 0, none⟩ = some v) (hf : w.frozen? ⟨b, 0, none⟩ = false) (ho : OwnR w v xs) (hs : Rising xs) (hne : v.ownBlock ≠ some b) (hB : xs.length < 4398046511104) :
    Calls Tryz.prog 46 #[.pointer (some ⟨b, 0, none⟩), x.val] w fun e w' =>
      e = .returned (.tuple #[]) ∧ w'.frozen? ⟨b, 0, none⟩ = false ∧ ∃ v', w'.cell? ⟨b, 0, none⟩ = some v' ∧ OwnR w' v' (putR x xs) ∧ Fr (fun k => k = b ∨ Foot v k) w w' ∧ (v'.ownBlock = v.ownBlock ∨ ∃ k, v'.ownBlock = some k ∧ w.heap.size ≤ k) := by
  cases hh : hitR x.k xs with
  | true =>
    refine (put_hit w b v xs x hc hf ho hs hh hne hB).mono ?_
    rintro e w' ⟨rfl, h0, h1, h2, h3⟩
    exact ⟨rfl, h0, v, h1, h2, h3.mono (fun _ _ h => .inr h), .inl rfl⟩
  | false => exact put_new w b v xs x hc hf ho hs hh hne hB

/-! ### rising rows stay rising -/
theorem pos_lt {key : ByteArray} {xs : List Rw} (hs : Rising xs) : ∀ j (h : j < xs.length), j < posR key xs → ltB xs[j].k key = true := by
  induction xs with
  | nil => intro j h; cases h
  | cons x r ih =>
    intro j h hj
    rw [posR] at hj
    split at hj
    · rename_i hx
      cases j with
      | zero => exact hx
      | succ j => exact ih (List.pairwise_cons.1 hs).2 j (Nat.lt_of_succ_lt_succ h) (by omega)
    · cases hj
theorem pos_ge {key : ByteArray} {xs : List Rw} (hs : Rising xs) : ∀ j (h : j < xs.length), posR key xs ≤ j → ltB xs[j].k key = false := by
  induction xs with
  | nil => intro j h; cases h
  | cons x r ih =>
    intro j h hj
    rw [posR] at hj
    split at hj
    · rename_i hx
      cases j with
      | zero => omega
      | succ j => exact ih (List.pairwise_cons.1 hs).2 j (Nat.lt_of_succ_lt_succ h) (by omega)
    · rename_i hx
      have hx' : ltB x.k key = false := by simpa using hx
      cases j with
      | zero => exact hx'
      | succ j => exact lt_of_lt_not ((List.pairwise_cons.1 hs).1 _ (List.getElem_mem _)) hx'
theorem put_rising {x : Rw} {xs : List Rw} (hs : Rising xs) : Rising (putR x xs) := by
  unfold putR
  split
  · rename_i hh
    obtain ⟨hp, hk⟩ := hit_at hh
    rw [Rising, List.pairwise_iff_getElem]
    intro i j hi hj hij
    simp only [List.length_set] at hi hj
    have h := rising_at hs hij hj
    simp only [List.getElem_set]
    split
    · rename_i e
      rw [if_neg (by omega)]
      subst e
      rw [hk] at h; exact h
    · split
      · rename_i e
        subst e
        rw [hk] at h; exact h
      · exact h
  · rename_i hh
    have hh' : hitR x.k xs = false := by simpa using hh
    have hne : ∀ (h : posR x.k xs < xs.length), xs[posR x.k xs].k ≠ x.k := by
      intro h e
      rw [hitR, List.getElem?_eq_getElem h] at hh'
      simp [e] at hh'
    rw [Rising, List.append_assoc, List.pairwise_append]
    refine ⟨hs.sublist (List.take_sublist _ _), ?_, ?_⟩
    · rw [List.singleton_append, List.pairwise_cons]
      refine ⟨fun y hy => ?_, hs.sublist (List.drop_sublist _ _)⟩
      obtain ⟨i, hi, rfl⟩ := List.getElem_of_mem hy
      rw [List.length_drop] at hi
      rw [List.getElem_drop]
      have h1 := pos_ge hs (key := x.k) (posR x.k xs + i) (by omega) (by omega)
      cases h2 : ltB x.k xs[posR x.k xs + i].k with
      | true => rfl
      | false =>
        exfalso
        have he := ltB_antisymm h1 h2
        cases i with
        | zero => exact hne (by omega) he
        | succ i =>
          have h3 := rising_at hs (i := posR x.k xs) (j := posR x.k xs + (i + 1)) (by omega) (by omega)
          rw [he] at h3
          rw [pos_ge hs (key := x.k) (posR x.k xs) (by omega) (Nat.le_refl _)] at h3
          cases h3
    · intro a ha y hy
      obtain ⟨i, hi, rfl⟩ := List.getElem_of_mem ha
      rw [List.length_take] at hi
      rw [List.getElem_take]
      have h1 := pos_lt hs (key := x.k) i (by omega) (by omega)
      rw [List.singleton_append, List.mem_cons] at hy
      rcases hy with rfl | hy
      · exact h1
      · obtain ⟨j, hj, rfl⟩ := List.getElem_of_mem hy
        rw [List.length_drop] at hj
        rw [List.getElem_drop]
        exact rising_at hs (by omega) (by omega)
theorem put_length (x : Rw) (xs : List Rw) : (putR x xs).length ≤ xs.length + 1 := by
  unfold putR
  split
  · simp
  · simp; omega
end Go.Proofs.YtnilbpofmohfhaaGreat
