/- The document's codec: Number, Row, Write, as plain bytes. -/
import Derived.Test.YtnilbpofmohfhaaGreatRowW
import Derived.Laws.BitsLemmas
namespace Go.Proofs.YtnilbpofmohfhaaGreat
open Go.RowKit

theorem wraps_i64 (n : Int) (h₀ : 0 ≤ n) (h₁ : n < 2 ^ 63) : IntKind.i64.wrap n = n := by rw [IntKind.wrap_i64]; omega
theorem and127 (m : Nat) (h : m ≤ 4611686018427387903) : bits BinOp.and IntKind.i64 (m : Int) 127 = ((m % 128 : Nat) : Int) := by
  have h1 := bits_mask .i64 63 (by decide) wraps_i64 7 (by decide) (m : Int) (by omega) (by omega)
  rw [show ((127 : Int) = 2 ^ 7 - 1) by decide, h1]
  omega
theorem or128s (c : Nat) (h : c < 128) : bits BinOp.or IntKind.u8 (c : Int) 128 = ((UInt8.ofNat (c + 128)).toNat : Int) := by
  have := or128' ⟨c, by omega⟩
  dsimp only at this
  rw [this]
  simp
  omega
theorem of128 (c : Nat) (h : c < 128) : (c : Int) = ((UInt8.ofNat c).toNat : Int) := by
  simp
  omega

set_option maxRecDepth 100000 in
set_option maxHeartbeats 2000000 in
theorem refNumber_any (w : World) (n : Nat) (hn : n ≤ 4611686018427387903) :
    Calls Tryz.prog 96 #[.int .i64 n] w fun e w' => ∃ v, e = .returned (.tuple #[v, .bool true]) ∧ OwnB w' v (varB n) ∧ New w v ∧ Fr Nix w w' := by
  obtain ⟨i0, hi, hz0, hz1, hz2⟩ := info_parts infoB
  obtain ⟨c, hc⟩ : ∃ c : UInt8, c = UInt8.ofNat (n % 128) := ⟨_, rfl⟩
  have hA : bits BinOp.and IntKind.i64 (n : Int) 127 = (c.toNat : Int) := by rw [and127 n hn, hc]; exact of128 _ (by omega)
  have hA2 : (c.toNat : Int) % 256 = (c.toNat : Int) := by have := c.toNat_lt; omega
  have HC := Lib.hid hc
  obtain ⟨q, hq⟩ : ∃ q : Nat, q = n / 128 := ⟨_, rfl⟩
  have hq2 : (n : Int) / 128 = (q : Int) := by rw [hq]; rfl
  have HQ := Lib.hid hq
  clear hc hq
  go_enter Tryz.func96, Tryz.ntmps96
  go_wp2_with fail
  go_loopg [0, 4] 9 (fun gg s0 s4 wr => ∃ (k m : Nat) (ps : List UInt8) (g cap : Nat), k ≤ 9 ∧ 9 - k ≤ gg ∧ m * 128 ^ k ≤ 4611686018427387903 ∧ s0 = .int .i64 ((m / 128 : Nat) : Int) ∧ s4 = .slice (some ⟨g, 0, none⟩) (k + 1) cap ∧
    Hid (OwnB wr s4 (ps ++ [UInt8.ofNat (m % 128)]) ∧ w.heap.size ≤ g ∧ Fr Nix w wr ∧ ps ++ varB m = varB n ∧ ps.length = k))
  case atStart =>
    refine ⟨0, n, [], w.heap.size, 1, by omega, by omega, by omega, by rw [HQ.out], rfl, ?_, Nat.le_refl _, (Fr.refl _ _).alloc _, rfl, rfl⟩
    have := Own1.lit (T := 5) (f := by8) w [UInt8.ofNat (n % 128)] (by simp)
    rw [← HC.out] at this ⊢
    exact this
  case round =>
    obtain ⟨k, m, ps, g, cap, hk, hg, hm, rfl, rfl, H⟩ := hrel
    clear hA hA2 hq2
    have hm1 : m ≤ 4611686018427387903 := Nat.le_trans (Nat.le_mul_of_pos_right m (Nat.one_le_pow _ _ (by decide))) hm
    by_cases hlt : 127 < m
    · have hk9 : k < 9 := by
        rcases Nat.lt_or_ge k 9 with h | h
        · exact h
        · obtain rfl : k = 9 := by omega
          omega
      have hps := H.out.2.2.2.2
      obtain ⟨d, hd⟩ : ∃ d : UInt8, d = UInt8.ofNat (m % 128) := ⟨_, rfl⟩
      have HO : Hid (OwnB wr (.slice (some ⟨g, 0, none⟩) (k + 1) cap) (ps ++ [d])) := by have := H.out.1; rw [← hd] at this; exact this
      have c0 : wr.cell? ⟨g, k, none⟩ = some (.int .u8 (d.toNat : Int)) := by
        obtain ⟨_, A', c', e, hr⟩ := HO.out.rd
        rcases hr with h | ⟨b, off, e2, hb, hcc⟩
        · simp at h
        · subst e2
          simp only [Value.slice.injEq, Option.some.injEq, Addr.mk.injEq] at e
          obtain ⟨⟨rfl, rfl, _⟩, _⟩ := e
          have := hcc k (by simp [hps])
          simp only [Nat.zero_add] at this
          rw [this]
          simp [by8, ← hps]
      have f0 : wr.frozen? ⟨g, k, none⟩ = false := HO.out.frozen k
      have gl : g < wr.heap.size := World.block_lt_of_cell? wr _ c0
      obtain ⟨d2, hd2⟩ : ∃ d2 : UInt8, d2 = UInt8.ofNat (m % 128 + 128) := ⟨_, rfl⟩
      have hor : bits BinOp.or IntKind.u8 (d.toNat : Int) 128 = (d2.toNat : Int) := by rw [hd, hd2, ← of128 _ (by omega)]; exact or128s _ (by omega)
      obtain ⟨q, hq⟩ : ∃ q : Nat, q = m / 128 := ⟨_, rfl⟩
      have hqp : (0 : Int) < (q : Int) := by omega
      have hqm : q ≤ 4611686018427387903 := by omega
      obtain ⟨c, hc⟩ : ∃ c : UInt8, c = UInt8.ofNat (q % 128) := ⟨_, rfl⟩
      have hA : bits BinOp.and IntKind.i64 (q : Int) 127 = (c.toNat : Int) := by rw [and127 q hqm, hc]; exact of128 _ (by omega)
      have hA2 : (c.toNat : Int) % 256 = (c.toNat : Int) := by have := c.toNat_lt; omega
      obtain ⟨q2, hq2⟩ : ∃ q2 : Nat, q2 = q / 128 := ⟨_, rfl⟩
      have hq3 : (q : Int) / 128 = (q2 : Int) := by rw [hq2]; rfl
      rw [← hq]
      have hk1 : ((k + 1 : Nat) : Int) = (k : Int) + 1 := rfl
      have HQ := Lib.hid hq
      have HQ2 := Lib.hid hq2
      have HCC := Lib.hid hc
      have HD := Lib.hid hd
      have HD2 := Lib.hid hd2
      have O2 : Hid (OwnB ((wr.setCell ⟨g, k, none⟩ (.int .u8 (d2.toNat : Int))).alloc (.cells #[.int .u8 (c.toNat : Int)] 5)) (.slice (some ⟨g, 0, none⟩) (k + 1) cap) (ps ++ [d2])) := by
        have h1 := HO.out.set k (by simp [hps]) d2
        rw [List.set_append_right _ _ (by omega)] at h1
        simp [hps] at h1
        exact h1.mono ((Fr.refl Nix _).alloc _) (fun _ _ h => h)
      have hlen : (ps ++ [d2]).length = k + 1 := by simp [hps]
      have HX : Hid (Src ((wr.setCell ⟨g, k, none⟩ (.int .u8 (d2.toNat : Int))).alloc (.cells #[.int .u8 (c.toNat : Int)] 5)) 1 (.slice (some ⟨wr.heap.size, 0, none⟩) 1 1) 1 [.int .u8 (c.toNat : Int)]) := by
        have := (rdB_lit (wr.setCell ⟨g, k, none⟩ (.int .u8 (d2.toNat : Int))) c).src by8_one
        rw [World.size_setCell] at this
        exact this
      clear hd hd2 hq hq2 hc hps
      go_wp2_with (at_builtin; refine wp_append rfl _ _ 50 rfl 5 i0 _ 1 1 Tryz.underlying50 hi hz0 hz1 hz2 rfl (by decide) _ (k + 1) ((ps ++ [d2]).map by8) rfl ?c1 _ rfl 1 [.int .u8 (c.toNat : Int)] HX.out ?c3 ?c4 ?c5)
      case c1 =>
        have := O2.out
        unfold OwnB Own1 at this
        rw [hlen] at this
        exact this
      case c3 => simp only [maxLen]; omega
      case c4 => omega
      case c5 =>
        intro v' w' ho' hf hat
        have N : Hid (OwnB w' v' ((ps ++ [d2]) ++ [c])) := by
          show w'.ownsRow _ _ _ _ _ _
          rw [List.length_append, hlen]
          simp only [List.map_append, List.map_cons, List.map_nil, List.append_assoc, List.cons_append, List.nil_append]
          exact ho'
        have FF : Hid (Fr Nix w w') := by
          have h1 : Fr Nix w (wr.setCell ⟨g, k, none⟩ (.int .u8 (d2.toNat : Int))) := H.out.2.2.1.setCell (p := ⟨g, k, none⟩) (.inl H.out.2.1) _
          refine (h1.alloc _).then hf (fun i hi h => ?_)
          simp [Foot, Value.ownBlock] at h
          have := H.out.2.1
          omega
        have HA := Lib.hid hat
        clear ho' hf hat
        rcases N.out.cases with ⟨_, h⟩ | ⟨g2, cap2, cur2, ev, _⟩
        · simp at h
        have hl2 : (ps ++ [d2] ++ [c]).length = k + 1 + 1 := by rw [List.length_append, hlen]; rfl
        rw [hl2] at ev
        subst ev
        go_wp2_with fail
        go_roundg (9 - (k + 1))
        case measure => omega
        case rel =>
          have hm9 : m / 128 * 128 ^ (k + 1) ≤ 4611686018427387903 := by
            have e : m / 128 * 128 ^ (k + 1) = m / 128 * 128 * 128 ^ k := by rw [Nat.pow_succ, Nat.mul_comm (128 ^ k) 128, Nat.mul_assoc]
            rw [e]
            exact Nat.le_trans (Nat.mul_le_mul_right _ (Nat.div_mul_le_self m 128)) hm
          refine ⟨k + 1, m / 128, ps ++ [d2], g2, cap2, by omega, by omega, hm9, ?_, rfl, ?_, ?_, FF.out, ?_, hlen⟩
          · rw [HQ2.out, HQ.out]
          · rw [← HQ.out, ← HCC.out]; exact N.out
          · have := HA.out
            simp [Value.ownBlock] at this
            have h2 := H.out.2.1
            have h3 := H.out.2.2.1.size
            omega
          · rw [← H.out.2.2.2.1, varB_gt m hlt, HD2.out]
            simp
    · have : m / 128 = 0 := by omega
      rw [this]
      go_wp2_with fail
      go_ret2
      have h1 := H.out.1
      refine ⟨_, rfl, ?_, ?_, H.out.2.2.1⟩
      · rw [← H.out.2.2.2.1, varB_le m (by omega)]
        rwa [show m % 128 = m by omega] at h1
      · intro k hk
        cases hk
        exact H.out.2.1

set_option maxRecDepth 100000 in
set_option maxHeartbeats 2000000 in
theorem refRow_any (w : World) (v : Value) (ps : List UInt8) (hv : RdB w v ps) (hB : ps.length ≤ 1000000000) :
    Calls Tryz.prog 98 #[v] w fun e w' => ∃ v', e = .returned v' ∧ OwnB w' v' (rowB ps) ∧ New w v' ∧ Fr Nix w w' := by
  obtain ⟨i0, hi, hz0, hz1, hz2⟩ := info_parts infoB
  obtain ⟨A, c, rfl⟩ := hv.form
  have HV := Lib.hid hv
  clear hv
  go_enter Tryz.func98, Tryz.ntmps98
  go_wp2_with fail
  refine (refNumber_any w ps.length (by omega)).mono ?_
  rintro e w1 ⟨v1, rfl, h1, h2, h3⟩
  have H1 := Lib.hid h1
  have H2 := Lib.hid h2
  have H3 := Lib.hid h3
  have hn9 := varB_len9 ps.length (by omega)
  clear h1 h2 h3
  obtain ⟨A1, n1, c1, e1⟩ := H1.out.rd.form'
  subst e1
  go_wp2_with (at_builtin; refine wp_append rfl _ _ 50 rfl 5 i0 _ 1 1 Tryz.underlying50 hi hz0 hz1 hz2 rfl (by decide) _ (varB ps.length).length ((varB ps.length).map by8) rfl H1.out _ rfl ps.length (ps.map by8) (HV.out.nix H3.out |>.src by8_one) ?c3 ?c4 ?c5)
  case c3 => simp only [maxLen]; omega
  case c4 => omega
  case c5 =>
    intro v' w' ho' hf hat
    have N : Hid (OwnB w' v' (rowB ps)) := by
      show w'.ownsRow _ _ _ _ _ _
      unfold rowB
      rw [List.length_append, List.map_append]
      exact ho'
    have FF : Hid (Fr Nix w w') := H3.out.then hf (fun i hi h => by have := H2.out i h; omega)
    have NN : Hid (New w v') := fun i hi => by
      rcases hat with e | e
      · rw [e] at hi; exact H2.out i hi
      · rw [e] at hi; cases hi; exact H3.out.size
    clear ho' hf hat
    obtain ⟨A2, n2, c2, e2⟩ := N.out.rd.form'
    subst e2
    go_wp2_with fail
    go_ret
    exact ⟨_, rfl, N.out, NN.out, FF.out⟩

theorem refFlag_any (w : World) (b : Bool) : Calls Tryz.prog 97 #[.bool b] w fun e w' => ∃ v', e = .returned v' ∧ OwnB w' v' (if b then [1] else [0]) ∧ New w v' ∧ Fr Nix w w' := by
  cases b with
  | true =>
    go_enter Tryz.func97, Tryz.ntmps97
    go_wp2
    go_ret
    exact ⟨_, rfl, Own1.lit (T := 5) (f := by8) w [1] (by simp), (fun k hk => by cases hk; exact Nat.le_refl _), (Fr.refl _ _).alloc _⟩
  | false =>
    go_enter Tryz.func97, Tryz.ntmps97
    go_wp2
    go_ret
    exact ⟨_, rfl, Own1.lit (T := 5) (f := by8) w [0] (by simp), (fun k hk => by cases hk; exact Nat.le_refl _), (Fr.refl _ _).alloc _⟩
def flagB (b : Bool) : List UInt8 := if b then [1] else [0]
def flagsB (fs : List Bool) : List UInt8 := fs.flatMap flagB
set_option maxRecDepth 100000 in
set_option maxHeartbeats 4000000 in
theorem refWrite_any (w : World) (nv fv tv : Value) (ns : List Nat) (fs : List Bool) (ss : List ByteArray) (hn : Rd1 int6 w nv ns) (hM : ∀ n ∈ ns, n ≤ 4611686018427387903) (hf : Rd1 Value.bool w fv fs) (ht : Rd1 Value.string w tv ss)
    (hB : (varsB ns).length + (flagsB fs).length + (textsB ss).length ≤ 1000000000) :
    Calls Tryz.prog 50 #[nv, fv, tv, .slice none 0 0] w fun e w' => ∃ v', e = .returned (.tuple #[v', .int .i64 0]) ∧ OwnB w' v' (varsB ns ++ flagsB fs ++ textsB ss) ∧ New w v' ∧ Fr Nix w w' := by
  obtain ⟨i0, hi, hz0, hz1, hz2⟩ := info_parts infoB
  obtain ⟨A, c, rfl⟩ := hn.form
  obtain ⟨A2, c2, rfl⟩ := hf.form
  obtain ⟨A3, c3, rfl⟩ := ht.form
  have HN := Lib.hid hn
  have HM := Lib.hid hM
  have HF := Lib.hid hf
  have HT := Lib.hid ht
  have l1 := hn.1
  have l2 := hf.1
  have l3 := ht.1
  clear hn hM hf ht
  go_enter Tryz.func50, Tryz.ntmps50
  go_wp2_with fail
  go_loopg [10, 11] ns.length (fun gg s10 s11 wr => ∃ (k : Nat) (A : Option Addr) (n c : Nat), k ≤ ns.length ∧ ns.length - k ≤ gg ∧ s11 = .int .i64 k ∧ s10 = .slice A n c ∧ Hid (OwnB wr s10 (varsB (ns.take k)) ∧ New w s10 ∧ Fr Nix w wr))
  case atStart => exact ⟨0, none, 0, 0, by omega, by omega, rfl, rfl, Own1.nil _ _ _, (fun k hk => by cases hk), Fr.refl _ _⟩
  case round =>
    obtain ⟨k, A1, n1, c1, hk, hg, rfl, rfl, H⟩ := hrel
    by_cases hlt : k < ns.length
    · obtain ⟨_, A', c', e, hr⟩ := HN.out.nix H.out.2.2
      cases e
      rcases hr with h9 | ⟨bb, off, rfl, hbb, hcc⟩
      · rw [h9] at hlt; cases hlt
      have c0 := hcc k hlt
      unfold int6 at c0
      have HS : Hid (varsB (ns.take (k + 1)) = varsB (ns.take k) ++ varB ns[k]) := flat_succ varB ns k hlt
      have hM := HM.out _ (List.getElem_mem hlt)
      have hfl := flat_le varB ns (k + 1)
      have hfl2 : (varsB (ns.take k)).length + (varB ns[k]).length ≤ 1000000000 := by
        have h1 : (varsB (ns.take (k + 1))).length ≤ (varsB ns).length := hfl
        rw [HS.out, List.length_append] at h1
        omega
      clear hcc hfl
      generalize ns[k] = y at c0 HS hM hfl2
      go_wp2_with fail
      refine (refNumber_any wr y hM).mono ?_
      rintro e w1 ⟨v1, rfl, h1, h2, h3⟩
      have H1 := Lib.hid h1
      have H2 := Lib.hid h2
      have H3 := Lib.hid h3
      clear h1 h2 h3
      obtain ⟨A4, n4, c4, e4⟩ := H1.out.rd.form'
      subst e4
      go_wp2_with (at_builtin; refine wp_append rfl _ _ 50 rfl 5 i0 _ 1 1 Tryz.underlying50 hi hz0 hz1 hz2 rfl (by decide) _ (varsB (ns.take k)).length ((varsB (ns.take k)).map by8) rfl (H.out.1.mono H3.out (fun _ _ h => h)) _ rfl (varB y).length ((varB y).map by8) (H1.out.rd.src by8_one) ?c3 ?c4 ?c5)
      case c3 => simp only [maxLen]; omega
      case c4 => omega
      case c5 =>
        intro v' w' ho' hf hat
        have N : Hid (OwnB w' v' (varsB (ns.take (k + 1)))) := by
          show w'.ownsRow _ _ _ _ _ _
          rw [HS.out, List.length_append, List.map_append]
          exact ho'
        have FF : Hid (Fr Nix w w') := (H.out.2.2.nix H3.out).then hf (fun i hi h => by have := H.out.2.1 i h; omega)
        have NN : Hid (New w v') := fun i hi => by
          rcases hat with e | e
          · rw [e] at hi; exact H.out.2.1 i hi
          · rw [e] at hi; cases hi; exact (H.out.2.2.nix H3.out).size
        clear ho' hf hat
        obtain ⟨A2, n2, c2, e2⟩ := N.out.rd.form'
        subst e2
        go_wp2_with fail
        go_roundg (ns.length - (k + 1))
        case measure => omega
        case rel => exact ⟨k + 1, _, _, _, by omega, by omega, by go_num, rfl, N.out, NN.out, FF.out⟩
    · obtain rfl : k = ns.length := by omega
      have H1 : Hid (OwnB wr (.slice A1 n1 c1) (varsB ns) ∧ New w (.slice A1 n1 c1) ∧ Fr Nix w wr) := by have := H.out; rw [List.take_length] at this; exact this
      clear H
      go_wp2_with fail
      go_loopg [10, 14] fs.length (fun gg s10 s14 wr => ∃ (k : Nat) (A : Option Addr) (n c : Nat), k ≤ fs.length ∧ fs.length - k ≤ gg ∧ s14 = .int .i64 k ∧ s10 = .slice A n c ∧ Hid (OwnB wr s10 (varsB ns ++ flagsB (fs.take k)) ∧ New w s10 ∧ Fr Nix w wr))
      case atStart => exact ⟨0, _, _, _, by omega, by omega, rfl, rfl, by simpa [flagsB] using H1.out.1, H1.out.2.1, H1.out.2.2⟩
      case round =>
        clear H1
        obtain ⟨k, A1, n1, c1, hk, hg, rfl, rfl, H⟩ := hrel
        by_cases hlt : k < fs.length
        · obtain ⟨_, A', c', e, hr⟩ := HF.out.nix H.out.2.2
          cases e
          rcases hr with h9 | ⟨bb, off, rfl, hbb, hcc⟩
          · rw [h9] at hlt; cases hlt
          have c0 := hcc k hlt
          have HS : Hid (flagsB (fs.take (k + 1)) = flagsB (fs.take k) ++ flagB fs[k]) := flat_succ flagB fs k hlt
          have hfl := flat_le flagB fs (k + 1)
          have hfl2 : (varsB ns ++ flagsB (fs.take k)).length + (flagB fs[k]).length ≤ 1000000000 := by
            have h1 : (flagsB (fs.take (k + 1))).length ≤ (flagsB fs).length := hfl
            rw [HS.out, List.length_append] at h1
            rw [List.length_append]
            omega
          clear hcc hfl
          generalize fs[k] = y at c0 HS hfl2
          go_wp2_with fail
          refine (refFlag_any wr y).mono ?_
          rintro e w1 ⟨v1, rfl, h1, h2, h3⟩
          have H1 : Hid (OwnB w1 v1 (flagB y)) := h1
          have H3 := Lib.hid h3
          clear h1 h2 h3
          obtain ⟨A4, n4, c4, e4⟩ := H1.out.rd.form'
          subst e4
          go_wp2_with (at_builtin; refine wp_append rfl _ _ 50 rfl 5 i0 _ 1 1 Tryz.underlying50 hi hz0 hz1 hz2 rfl (by decide) _ (varsB ns ++ flagsB (fs.take k)).length ((varsB ns ++ flagsB (fs.take k)).map by8) rfl (H.out.1.mono H3.out (fun _ _ h => h)) _ rfl (flagB y).length ((flagB y).map by8) (H1.out.rd.src by8_one) ?c3 ?c4 ?c5)
          case c3 => simp only [maxLen]; omega
          case c4 => omega
          case c5 =>
            intro v' w' ho' hf hat
            have N : Hid (OwnB w' v' (varsB ns ++ flagsB (fs.take (k + 1)))) := by
              show w'.ownsRow _ _ _ _ _ _
              rw [HS.out]
              simpa only [List.length_append, List.map_append, List.append_assoc, Nat.add_assoc] using ho'
            have FF : Hid (Fr Nix w w') := (H.out.2.2.nix H3.out).then hf (fun i hi h => by have := H.out.2.1 i h; omega)
            have NN : Hid (New w v') := fun i hi => by
              rcases hat with e | e
              · rw [e] at hi; exact H.out.2.1 i hi
              · rw [e] at hi; cases hi; exact (H.out.2.2.nix H3.out).size
            clear ho' hf hat
            obtain ⟨A2, n2, c2, e2⟩ := N.out.rd.form'
            subst e2
            go_wp2_with fail
            go_roundg (fs.length - (k + 1))
            case measure => omega
            case rel => exact ⟨k + 1, _, _, _, by omega, by omega, by go_num, rfl, N.out, NN.out, FF.out⟩
        · obtain rfl : k = fs.length := by omega
          have H1 : Hid (OwnB wr (.slice A1 n1 c1) (varsB ns ++ flagsB fs) ∧ New w (.slice A1 n1 c1) ∧ Fr Nix w wr) := by have := H.out; rw [List.take_length] at this; exact this
          clear H
          go_wp2_with fail
          go_loopg [10, 15] ss.length (fun gg s10 s15 wr => ∃ (k : Nat) (A : Option Addr) (n c : Nat), k ≤ ss.length ∧ ss.length - k ≤ gg ∧ s15 = .int .i64 k ∧ s10 = .slice A n c ∧ Hid (OwnB wr s10 (varsB ns ++ flagsB fs ++ textsB (ss.take k)) ∧ New w s10 ∧ Fr Nix w wr))
          case atStart => exact ⟨0, _, _, _, by omega, by omega, rfl, rfl, by simpa [textsB] using H1.out.1, H1.out.2.1, H1.out.2.2⟩
          case round =>
            clear H1
            obtain ⟨k, A1, n1, c1, hk, hg, rfl, rfl, H⟩ := hrel
            by_cases hlt : k < ss.length
            · obtain ⟨_, A', c', e, hr⟩ := HT.out.nix H.out.2.2
              cases e
              rcases hr with h9 | ⟨bb, off, rfl, hbb, hcc⟩
              · rw [h9] at hlt; cases hlt
              have c0 := hcc k hlt
              have HS : Hid (textsB (ss.take (k + 1)) = textsB (ss.take k) ++ rowB ss[k].data.toList) := flat_succ (fun s : ByteArray => rowB s.data.toList) ss k hlt
              have hfl := flat_le (fun s : ByteArray => rowB s.data.toList) ss (k + 1)
              have hfl2 : (varsB ns ++ flagsB fs ++ textsB (ss.take k)).length + (rowB ss[k].data.toList).length ≤ 1000000000 := by
                have h1 : (textsB (ss.take (k + 1))).length ≤ (textsB ss).length := hfl
                rw [HS.out, List.length_append] at h1
                rw [List.length_append, List.length_append]
                omega
              have hr1 : ss[k].data.toList.length ≤ (rowB ss[k].data.toList).length := by rw [rowB, List.length_append]; omega
              have hr2 : ss[k].size = ss[k].data.toList.length := by first | rfl | simp
              obtain ⟨Ac, cc, wc, hrun, hrc, hfc, hnc⟩ := conv_any wr ss[k] (by omega)
              have HR := Lib.hid (refRow_any wc _ _ hrc (by omega))
              have HFC := Lib.hid hfc
              clear hcc hfl hrc hfc hnc hr2
              generalize ss[k] = y at c0 HS hfl2 hr1 hrun HR
              go_wp2_with fail
              refine HR.out.mono ?_
              rintro e w1 ⟨v1, rfl, h1, h2, h3⟩
              have H1 := Lib.hid h1
              have H3 : Hid (Fr Nix wr w1) := HFC.out.nix h3
              clear h1 h2 h3 HR hrun
              obtain ⟨A4, n4, c4, e4⟩ := H1.out.rd.form'
              subst e4
              go_wp2_with (at_builtin; refine wp_append rfl _ _ 50 rfl 5 i0 _ 1 1 Tryz.underlying50 hi hz0 hz1 hz2 rfl (by decide) _ (varsB ns ++ flagsB fs ++ textsB (ss.take k)).length ((varsB ns ++ flagsB fs ++ textsB (ss.take k)).map by8) rfl (H.out.1.mono H3.out (fun _ _ h => h)) _ rfl (rowB y.data.toList).length ((rowB y.data.toList).map by8) (H1.out.rd.src by8_one) ?c3 ?c4 ?c5)
              case c3 => simp only [maxLen]; omega
              case c4 => omega
              case c5 =>
                intro v' w' ho' hf hat
                have N : Hid (OwnB w' v' (varsB ns ++ flagsB fs ++ textsB (ss.take (k + 1)))) := by
                  show w'.ownsRow _ _ _ _ _ _
                  rw [HS.out]
                  simpa only [List.length_append, List.map_append, List.append_assoc, Nat.add_assoc] using ho'
                have FF : Hid (Fr Nix w w') := (H.out.2.2.nix H3.out).then hf (fun i hi h => by have := H.out.2.1 i h; omega)
                have NN : Hid (New w v') := fun i hi => by
                  rcases hat with e | e
                  · rw [e] at hi; exact H.out.2.1 i hi
                  · rw [e] at hi; cases hi; exact (H.out.2.2.nix H3.out).size
                clear ho' hf hat
                obtain ⟨A2, n2, c2, e2⟩ := N.out.rd.form'
                subst e2
                go_wp2_with fail
                go_roundg (ss.length - (k + 1))
                case measure => omega
                case rel => exact ⟨k + 1, _, _, _, by omega, by omega, by go_num, rfl, N.out, NN.out, FF.out⟩
            · obtain rfl : k = ss.length := by omega
              have H1 : Hid (OwnB wr (.slice A1 n1 c1) (varsB ns ++ flagsB fs ++ textsB ss) ∧ New w (.slice A1 n1 c1) ∧ Fr Nix w wr) := by have := H.out; rw [List.take_length] at this; exact this
              clear H
              go_wp2_with fail
              go_loopg [10, 16] 0 (fun gg s10 s16 wr2 => s10 = .slice A1 n1 c1 ∧ s16 = .int .i64 0 ∧ Hid (wr2 = wr))
              case atStart => exact ⟨rfl, rfl, rfl⟩
              case round =>
                obtain ⟨rfl, rfl, hw⟩ := hrel
                have hw' := hw.out
                subst hw'
                go_wp2_with fail
                go_ret2
                refine ⟨_, rfl, ?_, H1.out.2.1, H1.out.2.2⟩
                have := H1.out.1
                rw [List.append_assoc] at this
                exact this
end Go.Proofs.YtnilbpofmohfhaaGreat
