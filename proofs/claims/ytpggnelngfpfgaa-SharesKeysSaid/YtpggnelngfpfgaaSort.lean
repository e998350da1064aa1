/- slices.Sorted and slices.Compact at texts, as a call owns what they hand back. -/
import Derived.Test.YtpggnelngfpfgaaSeq
import Derived.Test.YtpggnelngfpfgaaShelf
import Derived.Test.YtpggnelngfpfgaaKeysU
import Derived.Test.YtpggnelngfpfgaaOne
import Derived.Sort.OwnSorted
namespace Go.Proofs.Ytpggnelngfpfgaa
open Go.RowKit Go.Sort

abbrev OwnT := Own1 9 Value.string
abbrev RdT := Rd1 Value.string
theorem enc_toL (s : ByteArray) : encStr (toL s) = .string s := by simp [encStr, toL]
theorem enc_map (zs : List ByteArray) : (zs.map toL).map encStr = zs.map Value.string := by simp [encStr, toL]
theorem map_ofL (ts : List (List UInt8)) : (ts.map ofL).map Value.string = ts.map encStr := by simp [encStr, ofL]
theorem grow_fr {w : World} {g n : Nat} {os : Array Obj} (d : Array (List UInt8)) : Fr (fun k => k = g) w (grow (putRow encStr (Sort.ahead w n) g 0 d) os) :=
  (Fr.of_grown (grownBy_sorted d)).mono (fun _ _ h => by cases h; rfl)
theorem put_fr {w : World} {g n : Nat} (d : Array (List UInt8)) : Fr (fun k => k = g) w (putRow encStr (Sort.ahead w n) g 0 d) := by
  have := grow_fr (w := w) (g := g) (n := n) (os := #[]) d
  rwa [grow_empty] at this
theorem own_put {w : World} {g n cap : Nat} {os : Array Obj} {cur : List Value} {ts : List (List UInt8)} {rest : List (List UInt8)} (hb : Blk w g cur 9) (h1 : ts.length + rest.length ≤ cap) (h2 : cap ≤ maxLen) (h3 : cur.length = cap) :
    OwnT (grow (putRow encStr (Sort.ahead w n) g 0 (ts ++ rest).toArray) os) (.slice (some ⟨g, 0, none⟩) ts.length cap) (ts.map ofL) := by
  have hh := heap_sorted (n := n) (os := os) (ts ++ rest).toArray (show w.heap[g]? = some (.cells cur.toArray 9 (0, 0)) from hb)
  have ht := take_putCells cur.toArray (ts ++ rest) (by simp; omega)
  refine ⟨by simp, .inr ⟨g, cap, _, ?_, Nat.zero_le _, hh, by simp; omega, h2, by simp [putCells, h3], ?_⟩⟩
  · simp
  · have h4 := congrArg (List.take ts.length) ht
    rw [List.take_take, show min ts.length (ts ++ rest).length = ts.length by simp] at h4
    rw [map_ofL]
    simp only [List.length_map, Nat.mul_one]
    rw [h4, List.map_append, List.take_append_of_le_length (by simp), List.take_of_length_le (by simp)]

theorem strs_of_rd {w : World} {v : Value} {zs : List ByteArray} (h : RdT w v zs) : Strs w.heap.size w v zs := by
  obtain ⟨_, A, cap, e, hr⟩ := h
  refine ⟨A, cap, e, ?_⟩
  rcases hr with h0 | ⟨b, off, e2, hb, hc⟩
  · exact .inl h0
  · exact .inr ⟨b, off, e2, hb, fun j hj => by rw [hc j hj]; simp [hj]⟩

set_option maxRecDepth 100000 in
theorem collect_any (w : World) (Bs : Nat) (sv : Value) (zs : List ByteArray) (hlen : zs.length ≤ 1000000000) (hcs : w.cell? ⟨Bs, 0, none⟩ = some sv) (hr : RdT w sv zs) :
    Calls Try.prog 100 #[.func (.func 102) #[] #[.pointer (some ⟨Bs, 0, none⟩)]] w fun e W' => ∃ v, e = .returned v ∧ W'.ownsRow w.heap.size 9 1 v zs.length (zs.map Value.string) ∧ (v = .slice none 0 0 ↔ zs = []) ∧ Below w.heap.size w W' := by
  have HA := Lib.hid (appendSeq_any Bs sv zs hlen w (World.block_lt_of_cell? w _ hcs) hcs (strs_of_rd hr))
  clear hr hcs
  go_enter Try.func100, Try.ntmps100
  go_wp2_with fail
  refine HA.out.mono ?_
  rintro e w1 ⟨v, rfl, h1, h2, h3⟩
  have HX := Lib.hid (And.intro h1 (And.intro h2 h3))
  clear h1 h2 h3
  go_wp2
  go_ret
  exact ⟨_, rfl, HX.out⟩

set_option maxRecDepth 100000 in
set_option maxHeartbeats 1000000 in
theorem sorted_any (w : World) (Bs : Nat) (sv : Value) (zs : List ByteArray) (hlen : zs.length ≤ 1000000000) (hcs : w.cell? ⟨Bs, 0, none⟩ = some sv) (hr : RdT w sv zs) :
    Calls Try.prog 85 #[.func (.func 102) #[] #[.pointer (some ⟨Bs, 0, none⟩)]] w fun e w' => ∃ v, e = .returned v ∧ OwnT w' v ((sortU zs).map ofL) ∧ New w v ∧ Fr Nix w w' := by
  have HA := Lib.hid (collect_any w Bs sv zs hlen hcs hr)
  clear hr hcs
  go_enter Try.func85, Try.ntmps85
  go_wp2_with fail
  refine HA.out.mono ?_
  rintro e w1 ⟨v, rfl, h1, h2, h3⟩
  clear HA
  have F1 : Hid (Fr Nix w w1) := ⟨h3.os, h3.tape, h3.output, h3.size, fun k hk _ => h3.block k hk⟩
  have hl := sortU_length zs
  obtain ⟨ho1, ho2⟩ := h1
  rcases ho2 with ⟨rfl, h0⟩ | ⟨g, cap, cur, rfl, hbase, hb, hc1, hc2, hc3, hc4⟩
  · obtain rfl : zs = [] := List.eq_nil_of_length_eq_zero h0
    clear ho1 h2 h3 hl
    go_wp2_with fail
    refine (Try.slices_Sort_string_none _ _ _).mono ?_
    rintro e w2 ⟨rfl, rfl⟩
    go_wp2_with fail
    go_ret
    have hs : (sortU []).map ofL = [] := by simp [sortU]
    rw [hs]
    exact ⟨_, rfl, World.ownsRow_nil _ _ _ _, (fun k hk => by cases hk), F1.out⟩
  · have hH : Holds encStr w1 g 0 (zs.map toL).toArray := holds_of_block hb (by rw [List.length_map, enc_map]; simpa using hc4)
    have HS := Lib.hid (Try.slices_Sort_string g 0 cap (zs.map toL) w1 hH (Array.getElem?_eq_some_iff.1 hb).1 (by simp; omega))
    have hB : Blk w1 g cur.toList 9 := by simpa [Blk] using hb
    have HB := Lib.hid hB
    have HC := Lib.hid (And.intro hc1 (And.intro hc2 hc3))
    have HG := Lib.hid hbase
    rw [List.length_map] at HS
    clear ho1 h2 h3 hH hb hc1 hc2 hc3 hc4 hB hbase
    go_wp2_with fail
    refine HS.out.mono ?_
    rintro e w2 ⟨rfl, q, os, hw2⟩
    have O2 : Hid (OwnT w2 (.slice (some ⟨g, 0, none⟩) zs.length cap) ((sortU zs).map ofL)) := by
      have h := own_put (n := q) (os := os) (ts := sortU zs) (rest := []) HB.out (by rw [hl]; simpa using HC.out.1) HC.out.2.1 (by simpa using HC.out.2.2)
      rw [List.append_nil, hl] at h
      rw [hw2]
      exact h
    have F2 : Hid (Fr Nix w w2) := F1.out.then (by rw [hw2]; exact grow_fr _) (fun i hi h => by have := HG.out; omega)
    clear hw2 HS
    go_wp2
    go_ret
    exact ⟨_, rfl, O2.out, (fun k hk => by cases hk; exact HG.out), F2.out⟩

set_option maxRecDepth 100000 in
set_option maxHeartbeats 1000000 in
/-- slices.Compact of the sorted texts. -/
theorem compact_any (w : World) (v : Value) (zs : List ByteArray) (ho : OwnT w v ((sortU zs).map ofL)) :
    Calls Try.prog 84 #[v] w fun e w' => ∃ v', e = .returned v' ∧ OwnT w' v' (keysU zs) ∧ v'.ownBlock = v.ownBlock ∧ Fr (Foot v) w w' := by
  rcases ho.cases with ⟨rfl, h0⟩ | ⟨g, cap, cur, rfl, hb, h1, h2, h3, h4⟩
  · refine (Try.slices_Compact_string_empty none 0 w).mono ?_
    rintro e w' ⟨rfl, rfl⟩
    have hz : sortU zs = [] := by simpa using h0
    have : keysU zs = [] := by
      have := compact_len (sortU zs)
      rw [hz] at this
      unfold keysU
      rw [hz]
      have : Go.Lib.compact ([] : List (List UInt8)) = [] := List.eq_nil_of_length_eq_zero (by simpa using this)
      rw [this]
      rfl
    rw [this]
    exact ⟨_, rfl, World.ownsRow_nil _ _ _ _, rfl, Fr.refl _ _⟩
  · have hH : Holds encStr w g 0 (sortU zs).toArray := holds_of_block (show w.heap[g]? = some (.cells cur.toArray 9 (0, 0)) from hb) (by rw [map_ofL] at h4; simpa using h4)
    have hm : cap ≤ 9223372036854775807 := by simp only [maxLen] at h2; omega
    rw [List.length_map] at h1 ⊢
    refine (Try.slices_Compact_string g 0 cap (sortU zs) w hH (by omega) h1).mono ?_
    rintro e w' ⟨rfl, q, rfl⟩
    have hl := compact_len (sortU zs)
    have o := own_put (n := q) (os := #[]) (ts := Go.Lib.compact (sortU zs)) (rest := List.replicate ((sortU zs).length - (Go.Lib.compact (sortU zs)).length) []) hb (by simp; omega) h2 h3
    rw [grow_empty] at o
    refine ⟨_, rfl, o, rfl, (put_fr _).mono fun k _ hk => ?_⟩
    rw [hk]
    rfl
end Go.Proofs.Ytpggnelngfpfgaa
