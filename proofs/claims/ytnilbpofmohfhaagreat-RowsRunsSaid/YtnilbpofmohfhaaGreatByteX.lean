/- The wire's writer: numbers, texts, what it hands out. -/
import Derived.Test.YtnilbpofmohfhaaGreatByteW
import Derived.Deep.QuietTactic
namespace Go.Proofs.YtnilbpofmohfhaaGreat
open Go.RowKit

theorem conv_any (w : World) (s : ByteArray) (hs : s.size ≤ 9223372036854775807) : ∃ A c W', (convert 9 50 (.string s)).run Tryz.prog w = .ok (.slice A s.size c) W' ∧ RdB W' (.slice A s.size c) s.data.toList ∧ Fr Nix w W' ∧ New w (.slice A s.size c) := by
  refine ⟨some ⟨w.heap.size, 0, none⟩, grownCap w s.size 0 5, _, run_bytes_of_string w _ _ _ s Tryz.underlying9 Tryz.underlying50 Tryz.underlying5, ⟨by simpa using hs, some ⟨w.heap.size, 0, none⟩, grownCap w s.size 0 5, by simp, ?_⟩, (Fr.refl _ _).drew.alloc _, ?_⟩
  · right
    refine ⟨w.heap.size, 0, rfl, by rw [World.size_alloc]; exact Nat.lt_succ_self _, fun i hi => ?_⟩
    have hi' : i < s.data.size := by simpa using hi
    have := bytesRow_at s (grownCap w s.size 0 5) i hi'
    unfold World.cell?
    rw [show (w.drew.alloc (.cells (bytesRow s (grownCap w s.size 0 5)) 5 ((bytesRow s (grownCap w s.size 0 5)).size, (bytesRow s (grownCap w s.size 0 5)).size + 1))).heap[w.heap.size]? = some (.cells (bytesRow s (grownCap w s.size 0 5)) 5 ((bytesRow s (grownCap w s.size 0 5)).size, (bytesRow s (grownCap w s.size 0 5)).size + 1)) from heap_alloc_new w.drew _]
    simp only [Nat.zero_add]
    rw [if_neg (by simp)]
    rw [this]
    unfold by8
    simp
  · intro k hk
    cases hk
    exact Nat.le_refl _

/-- A row's bytes: its length, then itself. -/
def rowB (ps : List UInt8) : List UInt8 := varB ps.length ++ ps

theorem varB_len : ∀ (k n : Nat), n < 128 ^ (k + 1) → (varB n).length ≤ k + 1
  | 0, n, h => by rw [varB_le n (by omega)]; simp
  | k + 1, n, h => by
    by_cases hn : n ≤ 127
    · rw [varB_le n hn]; simp
    · rw [varB_gt n (by omega)]
      have := varB_len k (n / 128) (by rw [Nat.pow_succ] at h; omega)
      simp only [List.length_cons]
      omega
theorem varB_len9 (n : Nat) (h : n ≤ 4611686018427387903) : (varB n).length ≤ 9 := varB_len 8 n (by omega)

/-- What a step of the writer leaves: its bytes, what it may have touched. -/
def StepW (w w' : World) (b : Nat) (bad : Bool) (ys : List UInt8) : Prop := IsW w' b bad ys ∧ Fr (FootW w b) w w' ∧ (∀ k, FootW w' b k → FootW w b k ∨ w.heap.size ≤ k)
theorem StepW.refl {w : World} {b : Nat} {bad : Bool} {ys : List UInt8} (h : IsW w b bad ys) : StepW w w b bad ys := ⟨h, Fr.refl _ _, fun _ h => .inl h⟩
theorem StepW.trans {w w1 w2 : World} {b : Nat} {bad bad2 : Bool} {xs ys : List UInt8} (h : StepW w w1 b bad xs) (k : StepW w1 w2 b bad2 ys) : StepW w w2 b bad2 ys := by
  refine ⟨k.1, h.2.1.then k.2.1 (fun i hi h' => ?_), fun i hi => ?_⟩
  · rcases h.2.2 i h' with h'' | h''
    · exact h''
    · omega
  · rcases k.2.2 i hi with h' | h'
    · exact h.2.2 i h'
    · exact .inr (Nat.le_trans h.2.1.size h')
theorem StepW.nix {w w1 w2 : World} {b : Nat} {bad : Bool} {xs : List UInt8} (h : StepW w w1 b bad xs) (k : Fr Nix w1 w2) : StepW w w2 b bad xs :=
  h.trans ⟨h.1.mono k (fun _ _ h => h), k.any, fun i hi => .inl ((FootW.same h.1 k (fun _ _ h => h)).1 hi)⟩

set_option maxHeartbeats 2000000 in
theorem rows1W_any (w : World) (b g : Nat) (bad : Bool) (xs ps : List UInt8) (pv : Value) (h : IsW w b bad xs) (hg : w.cell? ⟨g, 0, none⟩ = some pv) (hp : RdB w pv ps) (hgf : ¬ FootW w b g) (hpf : ∀ k, pv.ownBlock = some k → ¬ FootW w b k)
    (hB : xs.length + ps.length ≤ 1000000000) :
    Calls Tryz.prog 129 #[.pointer (some ⟨b, 0, none⟩), .slice (some ⟨g, 0, none⟩) 1 1] w fun e w' => e = .returned (.pointer (some ⟨b, 0, none⟩)) ∧ StepW w w' b bad (xs ++ rowB ps) := by
  obtain ⟨A, c, rfl⟩ := hp.form
  have H0 := Lib.hid h
  have HP := Lib.hid hp
  have h0 : w.cell? ⟨b, 0, none⟩ = some (.bool true) := by obtain ⟨v, hb, _⟩ := h; exact hb.cell 0
  have HG : Hid (∀ W bad ys, StepW w W b bad ys → RdB W (.slice A ps.length c) ps) := fun W bad ys hs => hp.mono hs.2.1 hpf
  clear h hp
  go_enter Tryz.func129, Tryz.ntmps129
  go_wp2_with fail
  refine (knownW_any w b true h0).mono ?_
  rintro e w' ⟨rfl, rfl⟩
  go_wp2_with fail
  go_loopg [6, 11] 1 (fun gg s6 s11 wr => ∃ (k : Nat), k ≤ 1 ∧ 1 - k ≤ gg ∧ s11 = .int .i64 k ∧ Hid (StepW w wr b bad (if k = 0 then xs else xs ++ rowB ps)))
  case atStart => exact ⟨0, by omega, by omega, rfl, StepW.refl H0.out⟩
  case round =>
    obtain ⟨k, hk, hgg, rfl, H⟩ := hrel
    by_cases hk0 : k = 0
    · subst hk0
      have c0 : wr.cell? ⟨g, 0, none⟩ = some (.slice A ps.length c) := (H.out.2.1.cell (p := ⟨g, 0, none⟩) (World.block_lt_of_cell? w _ hg) hgf).trans hg
      have HN := Lib.hid (numW_any wr b bad xs ps.length H.out.1 (by omega) (by omega))
      go_wp2_with fail
      refine HN.out.mono ?_
      rintro e w1 ⟨rfl, h1⟩
      have S1 : Hid (StepW w w1 b bad (xs ++ varB ps.length)) := H.out.trans h1
      have hv := varB_len9 ps.length (by omega)
      have HQ := Lib.hid (putW_any w1 b bad (xs ++ varB ps.length) ps _ h1.1 (HG.out w1 bad _ S1.out) (by simp; omega))
      clear h1 HN
      go_wp2_with fail
      refine HQ.out.mono ?_
      rintro e w2 ⟨rfl, h1⟩
      rw [List.append_assoc] at h1
      have S2 : Hid (StepW w w2 b bad (xs ++ rowB ps)) := S1.out.trans h1
      clear h1 HQ
      go_wp2_with fail
      go_roundg 0
      case measure => omega
      case rel => exact ⟨1, by omega, by omega, rfl, S2.out⟩
    · obtain rfl : k = 1 := by omega
      go_wp2_with fail
      go_ret
      exact ⟨rfl, H.out⟩

def int6 (n : Nat) : Value := .int .i64 (n : Int)
def varsB (ns : List Nat) : List UInt8 := ns.flatMap varB
def textsB (ss : List ByteArray) : List UInt8 := ss.flatMap (fun s => rowB s.data.toList)
theorem flat_succ {α β : Type} (f : α → List β) (l : List α) (k : Nat) (h : k < l.length) : (l.take (k + 1)).flatMap f = (l.take k).flatMap f ++ f l[k] := by
  rw [List.take_succ_eq_append_getElem h, List.flatMap_append]
  simp
theorem flat_le {α β : Type} (f : α → List β) (l : List α) (k : Nat) : ((l.take k).flatMap f).length ≤ (l.flatMap f).length := by
  conv => rhs; rw [← List.take_append_drop k l, List.flatMap_append]
  rw [List.length_append]
  omega

set_option maxHeartbeats 2000000 in
theorem numbersW_any (w : World) (b : Nat) (bad : Bool) (xs : List UInt8) (v : Value) (ns : List Nat) (h : IsW w b bad xs) (hv : Rd1 int6 w v ns) (hn : ∀ n ∈ ns, n ≤ 4611686018427387903) (hvf : ∀ k, v.ownBlock = some k → ¬ FootW w b k)
    (hB : xs.length + (varsB ns).length ≤ 1000000000) :
    Calls Tryz.prog 79 #[.pointer (some ⟨b, 0, none⟩), v] w fun e w' => e = .returned (.pointer (some ⟨b, 0, none⟩)) ∧ StepW w w' b bad (xs ++ varsB ns) := by
  obtain ⟨A, c, rfl⟩ := hv.form
  have H0 := Lib.hid h
  have h0 : w.cell? ⟨b, 0, none⟩ = some (.bool true) := by obtain ⟨v, hb, _⟩ := h; exact hb.cell 0
  have HG : Hid (∀ W bad ys, StepW w W b bad ys → Rd1 int6 W (.slice A ns.length c) ns) := fun W bad ys hs => hv.mono hs.2.1 hvf
  have HN := Lib.hid hn
  have hlen := hv.1
  clear h hv hn
  go_enter Tryz.func79, Tryz.ntmps79
  go_wp2_with fail
  refine (knownW_any w b true h0).mono ?_
  rintro e w' ⟨rfl, rfl⟩
  go_wp2_with fail
  go_loopg [6, 11] ns.length (fun gg s6 s11 wr => ∃ (k : Nat), k ≤ ns.length ∧ ns.length - k ≤ gg ∧ s11 = .int .i64 k ∧ Hid (StepW w wr b bad (xs ++ varsB (ns.take k))))
  case atStart => exact ⟨0, by omega, by omega, rfl, Lib.hid (by simpa [varsB] using StepW.refl H0.out)⟩
  case round =>
    obtain ⟨k, hk, hgg, rfl, H⟩ := hrel
    by_cases hlt : k < ns.length
    · have hrd := HG.out wr bad _ H.out
      obtain ⟨_, A', c', e, hr⟩ := hrd
      cases e
      rcases hr with h9 | ⟨bb, off, rfl, hbb, hcc⟩
      · rw [h9] at hlt; cases hlt
      have c0 := hcc k hlt
      unfold int6 at c0
      have hfl := flat_le varB ns k
      have HC := Lib.hid (numW_any wr b bad _ ns[k] H.out.1 (HN.out _ (List.getElem_mem hlt)) (by simp only [varsB, List.length_append] at hB ⊢; omega))
      have HS : Hid (varsB (ns.take (k + 1)) = varsB (ns.take k) ++ varB ns[k]) := flat_succ varB ns k hlt
      clear hcc
      generalize ns[k] = y at c0 HC HS
      go_wp2_with fail
      refine HC.out.mono ?_
      rintro e w1 ⟨rfl, h1⟩
      have S1 : Hid (StepW w w1 b bad (xs ++ varsB (ns.take (k + 1)))) := by
        show StepW _ _ _ _ _
        rw [HS.out, ← List.append_assoc]
        exact H.out.trans h1
      clear h1 HC
      go_wp2_with fail
      go_roundg (ns.length - (k + 1))
      case measure => omega
      case rel => exact ⟨k + 1, by omega, by omega, by go_num, S1.out⟩
    · obtain rfl : k = ns.length := by omega
      have hH := H.out
      rw [List.take_length] at hH
      go_wp2_with fail
      go_ret
      exact ⟨rfl, hH⟩

set_option maxHeartbeats 2000000 in
theorem textsW_any (w : World) (b : Nat) (bad : Bool) (xs : List UInt8) (v : Value) (ss : List ByteArray) (h : IsW w b bad xs) (hv : Rd1 Value.string w v ss) (hvf : ∀ k, v.ownBlock = some k → ¬ FootW w b k)
    (hB : xs.length + (textsB ss).length ≤ 1000000000) :
    Calls Tryz.prog 80 #[.pointer (some ⟨b, 0, none⟩), v] w fun e w' => e = .returned (.pointer (some ⟨b, 0, none⟩)) ∧ StepW w w' b bad (xs ++ textsB ss) := by
  obtain ⟨A, c, rfl⟩ := hv.form
  have H0 := Lib.hid h
  have h0 : w.cell? ⟨b, 0, none⟩ = some (.bool true) := by obtain ⟨v, hb, _⟩ := h; exact hb.cell 0
  have HG : Hid (∀ W bad ys, StepW w W b bad ys → Rd1 Value.string W (.slice A ss.length c) ss) := fun W bad ys hs => hv.mono hs.2.1 hvf
  have hlen := hv.1
  clear h hv
  go_enter Tryz.func80, Tryz.ntmps80
  go_wp2_with fail
  refine (knownW_any w b true h0).mono ?_
  rintro e w' ⟨rfl, rfl⟩
  go_wp2_with fail
  go_loopg [6, 11] ss.length (fun gg s6 s11 wr => ∃ (k : Nat), k ≤ ss.length ∧ ss.length - k ≤ gg ∧ s11 = .int .i64 k ∧ Hid (StepW w wr b bad (xs ++ textsB (ss.take k))))
  case atStart => exact ⟨0, by omega, by omega, rfl, Lib.hid (by simpa [textsB] using StepW.refl H0.out)⟩
  case round =>
    obtain ⟨k, hk, hgg, rfl, H⟩ := hrel
    by_cases hlt : k < ss.length
    · have hrd := HG.out wr bad _ H.out
      obtain ⟨_, A', c', e, hr⟩ := hrd
      cases e
      rcases hr with h9 | ⟨bb, off, rfl, hbb, hcc⟩
      · rw [h9] at hlt; cases hlt
      have c0 := hcc k hlt
      have hfl := flat_le (fun s : ByteArray => rowB s.data.toList) ss (k + 1)
      have HS : Hid (textsB (ss.take (k + 1)) = textsB (ss.take k) ++ rowB ss[k].data.toList) := flat_succ (fun s : ByteArray => rowB s.data.toList) ss k hlt
      have hsz : (xs ++ textsB (ss.take k)).length + ss[k].data.toList.length ≤ 1000000000 := by
        have h1 : (textsB (ss.take (k + 1))).length ≤ (textsB ss).length := hfl
        rw [HS.out, List.length_append] at h1
        have h2 : ss[k].data.toList.length ≤ (rowB ss[k].data.toList).length := by rw [rowB, List.length_append]; omega
        rw [List.length_append]
        omega
      obtain ⟨Ac, cc, wc, hrun, hrc, hfc, hnc⟩ := conv_any wr ss[k] (by simp at hsz; have : ss[k].size = ss[k].data.size := rfl; omega)
      have HC : Hid (Calls Tryz.prog 129 #[.pointer (some ⟨b, 0, none⟩), .slice (some ⟨wc.heap.size, 0, none⟩) 1 1] (wc.alloc (.cells #[.slice Ac ss[k].size cc] 50)) fun e w' => e = .returned (.pointer (some ⟨b, 0, none⟩)) ∧ StepW (wc.alloc (.cells #[.slice Ac ss[k].size cc] 50)) w' b bad (xs ++ textsB (ss.take k) ++ rowB ss[k].data.toList)) := by
        have hF : Fr Nix wr (wc.alloc (.cells #[.slice Ac ss[k].size cc] 50)) := hfc.alloc _
        refine rows1W_any _ b _ bad _ _ (.slice Ac ss[k].size cc) (H.out.1.mono hF (fun _ _ h => h)) ((Blk.new wc [.slice Ac ss[k].size cc] _).cell 0) (hrc.nix ((Fr.refl _ _).alloc _)) (fun h => ?_) (fun i hi h => ?_) hsz
        · have := H.out.1.lt ((FootW.same H.out.1 hF (fun _ _ h => h)).1 h)
          have := hfc.size
          omega
        · have := H.out.1.lt ((FootW.same H.out.1 hF (fun _ _ h => h)).1 h)
          have := hnc i hi
          omega
      have HF : Hid (Fr Nix wr (wc.alloc (.cells #[.slice Ac ss[k].size cc] 50))) := hfc.alloc _
      clear hcc hrc hfc hnc hfl hsz
      generalize ss[k] = y at c0 HC HS HF hrun
      go_wp2_with fail
      refine HC.out.mono ?_
      rintro e w1 ⟨rfl, h1⟩
      have S1 : Hid (StepW w w1 b bad (xs ++ textsB (ss.take (k + 1)))) := by
        show StepW _ _ _ _ _
        rw [HS.out, ← List.append_assoc]
        exact (H.out.nix HF.out).trans h1
      clear h1 HC
      go_wp2_with fail
      go_roundg (ss.length - (k + 1))
      case measure => omega
      case rel => exact ⟨k + 1, by omega, by omega, by go_num, S1.out⟩
    · obtain rfl : k = ss.length := by omega
      have hH := H.out
      rw [List.take_length] at hH
      go_wp2_with fail
      go_ret
      exact ⟨rfl, hH⟩

set_option maxHeartbeats 2000000 in
theorem doneW_any (w : World) (b : Nat) (bad : Bool) (xs : List UInt8) (h : IsW w b bad xs) (hB : xs.length ≤ 1000000000) :
    Calls Tryz.prog 37 #[.pointer (some ⟨b, 0, none⟩)] w fun e w' => ∃ v, e = .returned (.tuple #[v, .int .i64 (if bad then 2 else 0)]) ∧ OwnB w' v (if bad then [] else xs) ∧ New w v ∧ Fr Nix w w' := by
  obtain ⟨v, hb, ho, hne⟩ := h
  obtain ⟨A, n, c, rfl⟩ := ho.rd.form'
  have h0 : w.cell? ⟨b, 0, none⟩ = some (.bool true) := hb.cell 0
  have h1 : w.cell? ⟨b, 1, none⟩ = some (.bool bad) := hb.cell 1
  have h2 : w.cell? ⟨b, 2, none⟩ = some (.slice A n c) := hb.cell 2
  have HC := Lib.hid (cloneB_any w _ xs ho.rd (by omega))
  clear hb ho
  go_enter Tryz.func37, Tryz.ntmps37
  cases bad with
  | true =>
    go_wp2_with (go_at_call 81; refine (knownW_any w b true h0).mono ?_; rintro e w' ⟨rfl, rfl⟩)
    go_ret2
    exact ⟨_, rfl, Own1.nil _ _ _, (fun k hk => by cases hk), Fr.refl _ _⟩
  | false =>
    go_wp2_with (first | (go_at_call 81; refine (knownW_any w b true h0).mono ?_; rintro e w' ⟨rfl, rfl⟩) | (go_at_call 82; refine HC.out.mono ?_; rintro e w1 ⟨v1, rfl, g1, g2, g3⟩))
    go_ret2
    exact ⟨_, rfl, g1, g2, g3⟩
end Go.Proofs.YtnilbpofmohfhaaGreat
