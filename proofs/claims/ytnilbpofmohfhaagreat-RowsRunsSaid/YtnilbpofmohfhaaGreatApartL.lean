/- The bag of lists of rows alone: apart, ApartLines. (The walk of apart printed by genapart.py.) -/
import Derived.Test.YtnilbpofmohfhaaGreatFlats
import Derived.Test.YtnilbpofmohfhaaGreatFlatL
namespace Go.Proofs.YtnilbpofmohfhaaGreat
open Go.RowKit

def bagC (v : Value) : List Value := List.replicate 13 (.slice none 0 0) ++ [v] ++ List.replicate 8 (.slice none 0 0)
theorem Lists.fr {w w' : World} {gb K : Nat} {S : Nat → Value} {N : Nat → Nat} (h : Lists w gb K S N) (hf : Fr Nix w w') : Lists w' gb K S N :=
  ⟨fun k hk => hf.cell' (h.cell k hk), fun k hk => by obtain ⟨ys, h1, h2⟩ := h.own k hk; exact ⟨ys, h1.mono hf (fun _ _ h => h), h2⟩, h.small, h.sep, h.base, Nat.lt_of_lt_of_le h.lt hf.size⟩
set_option maxRecDepth 100000 in
set_option maxHeartbeats 4000000 in
theorem apartL_any (w : World) (b gb K cb : Nat) (S : Nat → Value) (N : Nat → Nat) (hB : Blk w b (bagC (.slice (some ⟨gb, 0, none⟩) K cb)) 87) (h : Lists w gb K S N) (hK : K ≤ 1000) (hb : ¬ FootL K S b) :
    Calls Tryz.prog 33 #[.pointer (some ⟨b, 0, none⟩)] w fun e w' => e = .returned (.bool true) ∧ Fr (FootL K S) w w' := by
  have B0 := Lib.hid hB
  have L0 := Lib.hid h
  have HB := Lib.hid hb
  clear hB h hb
  have F0 : Hid (Fr (FootL K S) w w) := Fr.refl _ _
  have c0 : w.cell? ⟨b, 0, none⟩ = some (.slice none 0 0) := B0.out.cell 0
  go_enter Tryz.func33, Tryz.ntmps33
  go_wp2_with fail
  refine (flatLimbs_nil _).mono ?_
  rintro e w1 ⟨rfl, h1⟩
  have B1 : Hid (Blk w1 b (bagC (.slice (some ⟨gb, 0, none⟩) K cb)) 87) := B0.out.mono h1 (fun h => h)
  have L1 : Hid (Lists w1 gb K S N) := L0.out.fr h1
  have F1 : Hid (Fr (FootL K S) w w1) := F0.out.nix h1
  have c1 : w1.cell? ⟨b, 1, none⟩ = some (.slice none 0 0) := B1.out.cell 1
  clear h1 B0 F0 c0 L0
  go_wp2_with fail
  refine (flatWords_nil _).mono ?_
  rintro e w2 ⟨rfl, h2⟩
  have B2 : Hid (Blk w2 b (bagC (.slice (some ⟨gb, 0, none⟩) K cb)) 87) := B1.out.mono h2 (fun h => h)
  have L2 : Hid (Lists w2 gb K S N) := L1.out.fr h2
  have F2 : Hid (Fr (FootL K S) w w2) := F1.out.nix h2
  have c2 : w2.cell? ⟨b, 2, none⟩ = some (.slice none 0 0) := B2.out.cell 2
  clear h2 B1 F1 c1 L1
  go_wp2_with fail
  refine (flatInts_nil _).mono ?_
  rintro e w3 ⟨rfl, h3⟩
  have B3 : Hid (Blk w3 b (bagC (.slice (some ⟨gb, 0, none⟩) K cb)) 87) := B2.out.mono h3 (fun h => h)
  have L3 : Hid (Lists w3 gb K S N) := L2.out.fr h3
  have F3 : Hid (Fr (FootL K S) w w3) := F2.out.nix h3
  have c3 : w3.cell? ⟨b, 3, none⟩ = some (.slice none 0 0) := B3.out.cell 3
  clear h3 B2 F2 c2 L2
  go_wp2_with fail
  refine (flatLongs_nil _).mono ?_
  rintro e w4 ⟨rfl, h4⟩
  have B4 : Hid (Blk w4 b (bagC (.slice (some ⟨gb, 0, none⟩) K cb)) 87) := B3.out.mono h4 (fun h => h)
  have L4 : Hid (Lists w4 gb K S N) := L3.out.fr h4
  have F4 : Hid (Fr (FootL K S) w w4) := F3.out.nix h4
  have c4 : w4.cell? ⟨b, 4, none⟩ = some (.slice none 0 0) := B4.out.cell 4
  clear h4 B3 F3 c3 L3
  go_wp2_with fail
  refine (flatTexts_nil _).mono ?_
  rintro e w5 ⟨rfl, h5⟩
  have B5 : Hid (Blk w5 b (bagC (.slice (some ⟨gb, 0, none⟩) K cb)) 87) := B4.out.mono h5 (fun h => h)
  have L5 : Hid (Lists w5 gb K S N) := L4.out.fr h5
  have F5 : Hid (Fr (FootL K S) w w5) := F4.out.nix h5
  have c5 : w5.cell? ⟨b, 5, none⟩ = some (.slice none 0 0) := B5.out.cell 5
  clear h5 B4 F4 c4 L4
  go_wp2_with fail
  refine (flatBytes_nil _).mono ?_
  rintro e w6 ⟨rfl, h6⟩
  have B6 : Hid (Blk w6 b (bagC (.slice (some ⟨gb, 0, none⟩) K cb)) 87) := B5.out.mono h6 (fun h => h)
  have L6 : Hid (Lists w6 gb K S N) := L5.out.fr h6
  have F6 : Hid (Fr (FootL K S) w w6) := F5.out.nix h6
  have c6 : w6.cell? ⟨b, 6, none⟩ = some (.slice none 0 0) := B6.out.cell 6
  clear h6 B5 F5 c5 L5
  go_wp2_with fail
  refine (flatTruths_nil _).mono ?_
  rintro e w7 ⟨rfl, h7⟩
  have B7 : Hid (Blk w7 b (bagC (.slice (some ⟨gb, 0, none⟩) K cb)) 87) := B6.out.mono h7 (fun h => h)
  have L7 : Hid (Lists w7 gb K S N) := L6.out.fr h7
  have F7 : Hid (Fr (FootL K S) w w7) := F6.out.nix h7
  have c7 : w7.cell? ⟨b, 7, none⟩ = some (.slice none 0 0) := B7.out.cell 7
  clear h7 B6 F6 c6 L6
  go_wp2_with fail
  refine (flatSpans_nil _).mono ?_
  rintro e w8 ⟨rfl, h8⟩
  have B8 : Hid (Blk w8 b (bagC (.slice (some ⟨gb, 0, none⟩) K cb)) 87) := B7.out.mono h8 (fun h => h)
  have L8 : Hid (Lists w8 gb K S N) := L7.out.fr h8
  have F8 : Hid (Fr (FootL K S) w w8) := F7.out.nix h8
  have c8 : w8.cell? ⟨b, 8, none⟩ = some (.slice none 0 0) := B8.out.cell 8
  clear h8 B7 F7 c7 L7
  go_wp2_with fail
  refine (flatShareRows_nil _).mono ?_
  rintro e w9 ⟨rfl, h9⟩
  have B9 : Hid (Blk w9 b (bagC (.slice (some ⟨gb, 0, none⟩) K cb)) 87) := B8.out.mono h9 (fun h => h)
  have L9 : Hid (Lists w9 gb K S N) := L8.out.fr h9
  have F9 : Hid (Fr (FootL K S) w w9) := F8.out.nix h9
  have c9 : w9.cell? ⟨b, 9, none⟩ = some (.slice none 0 0) := B9.out.cell 9
  clear h9 B8 F8 c8 L8
  go_wp2_with fail
  refine (flatSharesRows_nil _).mono ?_
  rintro e w10 ⟨rfl, h10⟩
  have B10 : Hid (Blk w10 b (bagC (.slice (some ⟨gb, 0, none⟩) K cb)) 87) := B9.out.mono h10 (fun h => h)
  have L10 : Hid (Lists w10 gb K S N) := L9.out.fr h10
  have F10 : Hid (Fr (FootL K S) w w10) := F9.out.nix h10
  have c10 : w10.cell? ⟨b, 10, none⟩ = some (.slice none 0 0) := B10.out.cell 10
  clear h10 B9 F9 c9 L9
  go_wp2_with fail
  refine (flatNames_nil _).mono ?_
  rintro e w11 ⟨rfl, h11⟩
  have B11 : Hid (Blk w11 b (bagC (.slice (some ⟨gb, 0, none⟩) K cb)) 87) := B10.out.mono h11 (fun h => h)
  have L11 : Hid (Lists w11 gb K S N) := L10.out.fr h11
  have F11 : Hid (Fr (FootL K S) w w11) := F10.out.nix h11
  have c11 : w11.cell? ⟨b, 11, none⟩ = some (.slice none 0 0) := B11.out.cell 11
  clear h11 B10 F10 c10 L10
  go_wp2_with fail
  refine (flatActs_nil _).mono ?_
  rintro e w12 ⟨rfl, h12⟩
  have B12 : Hid (Blk w12 b (bagC (.slice (some ⟨gb, 0, none⟩) K cb)) 87) := B11.out.mono h12 (fun h => h)
  have L12 : Hid (Lists w12 gb K S N) := L11.out.fr h12
  have F12 : Hid (Fr (FootL K S) w w12) := F11.out.nix h12
  have c12 : w12.cell? ⟨b, 12, none⟩ = some (.slice none 0 0) := B12.out.cell 12
  clear h12 B11 F11 c11 L11
  go_wp2_with fail
  refine (flatReads_nil _).mono ?_
  rintro e w13 ⟨rfl, h13⟩
  have B13 : Hid (Blk w13 b (bagC (.slice (some ⟨gb, 0, none⟩) K cb)) 87) := B12.out.mono h13 (fun h => h)
  have L13 : Hid (Lists w13 gb K S N) := L12.out.fr h13
  have F13 : Hid (Fr (FootL K S) w w13) := F12.out.nix h13
  have c13 : w13.cell? ⟨b, 13, none⟩ = some (.slice (some ⟨gb, 0, none⟩) K cb) := B13.out.cell 13
  clear h13 B12 F12 c12 L12
  go_wp2_with fail
  refine (flatLines_any _ gb K cb S N L13.out hK).mono ?_
  rintro e w14 ⟨rfl, h14⟩
  have B14 : Hid (Blk w14 b (bagC (.slice (some ⟨gb, 0, none⟩) K cb)) 87) := B13.out.mono h14 HB.out
  have F14 : Hid (Fr (FootL K S) w w14) := F13.out.trans h14
  have c14 : w14.cell? ⟨b, 14, none⟩ = some (.slice none 0 0) := B14.out.cell 14
  clear h14 B13 F13 c13 L13
  go_wp2_with fail
  refine (flatHolds_nil _).mono ?_
  rintro e w15 ⟨rfl, h15⟩
  have B15 : Hid (Blk w15 b (bagC (.slice (some ⟨gb, 0, none⟩) K cb)) 87) := B14.out.mono h15 (fun h => h)
  have F15 : Hid (Fr (FootL K S) w w15) := F14.out.nix h15
  have c15 : w15.cell? ⟨b, 15, none⟩ = some (.slice none 0 0) := B15.out.cell 15
  clear h15 B14 F14 c14
  go_wp2_with fail
  refine (flatConfigs_nil _).mono ?_
  rintro e w16 ⟨rfl, h16⟩
  have B16 : Hid (Blk w16 b (bagC (.slice (some ⟨gb, 0, none⟩) K cb)) 87) := B15.out.mono h16 (fun h => h)
  have F16 : Hid (Fr (FootL K S) w w16) := F15.out.nix h16
  have c16 : w16.cell? ⟨b, 16, none⟩ = some (.slice none 0 0) := B16.out.cell 16
  clear h16 B15 F15 c15
  go_wp2_with fail
  refine (flatEntries_nil _).mono ?_
  rintro e w17 ⟨rfl, h17⟩
  have B17 : Hid (Blk w17 b (bagC (.slice (some ⟨gb, 0, none⟩) K cb)) 87) := B16.out.mono h17 (fun h => h)
  have F17 : Hid (Fr (FootL K S) w w17) := F16.out.nix h17
  have c17 : w17.cell? ⟨b, 17, none⟩ = some (.slice none 0 0) := B17.out.cell 17
  clear h17 B16 F16 c16
  go_wp2_with fail
  refine (flatBases_nil _).mono ?_
  rintro e w18 ⟨rfl, h18⟩
  have B18 : Hid (Blk w18 b (bagC (.slice (some ⟨gb, 0, none⟩) K cb)) 87) := B17.out.mono h18 (fun h => h)
  have F18 : Hid (Fr (FootL K S) w w18) := F17.out.nix h18
  have c18 : w18.cell? ⟨b, 18, none⟩ = some (.slice none 0 0) := B18.out.cell 18
  clear h18 B17 F17 c17
  go_wp2_with fail
  refine (flatImages_nil _).mono ?_
  rintro e w19 ⟨rfl, h19⟩
  have B19 : Hid (Blk w19 b (bagC (.slice (some ⟨gb, 0, none⟩) K cb)) 87) := B18.out.mono h19 (fun h => h)
  have F19 : Hid (Fr (FootL K S) w w19) := F18.out.nix h19
  have c19 : w19.cell? ⟨b, 19, none⟩ = some (.slice none 0 0) := B19.out.cell 19
  clear h19 B18 F18 c18
  go_wp2_with fail
  refine (flatLetters_nil _).mono ?_
  rintro e w20 ⟨rfl, h20⟩
  have B20 : Hid (Blk w20 b (bagC (.slice (some ⟨gb, 0, none⟩) K cb)) 87) := B19.out.mono h20 (fun h => h)
  have F20 : Hid (Fr (FootL K S) w w20) := F19.out.nix h20
  have c20 : w20.cell? ⟨b, 20, none⟩ = some (.slice none 0 0) := B20.out.cell 20
  clear h20 B19 F19 c19
  go_wp2_with fail
  refine (flatStretches_nil _).mono ?_
  rintro e w21 ⟨rfl, h21⟩
  have B21 : Hid (Blk w21 b (bagC (.slice (some ⟨gb, 0, none⟩) K cb)) 87) := B20.out.mono h21 (fun h => h)
  have F21 : Hid (Fr (FootL K S) w w21) := F20.out.nix h21
  have c21 : w21.cell? ⟨b, 21, none⟩ = some (.slice none 0 0) := B21.out.cell 21
  clear h21 B20 F20 c20
  go_wp2_with fail
  refine (flatPeers_nil _).mono ?_
  rintro e w22 ⟨rfl, h22⟩
  have B22 : Hid (Blk w22 b (bagC (.slice (some ⟨gb, 0, none⟩) K cb)) 87) := B21.out.mono h22 (fun h => h)
  have F22 : Hid (Fr (FootL K S) w w22) := F21.out.nix h22
  clear h22 B21 F21 c21
  go_wp2_with fail
  go_ret
  exact ⟨rfl, F22.out⟩

structure Sl where
  A : Option Addr
  n : Nat
  c : Nat
def Sl.val (s : Sl) : Value := .slice s.A s.n s.c
theorem Sl.one (s : Sl) : s.val.oneCell' = true := rfl
set_option maxRecDepth 100000 in
set_option maxHeartbeats 2000000 in
theorem putLines_any (w : World) (b : Nat) (v : Value) (vs : List Sl) (s : Sl) (hB : Blk w b (bagC v) 87) (ho : Own1 29 Sl.val w v vs) (hne : v.ownBlock ≠ some b) (hv : vs.length ≤ 1000) :
    Calls Tryz.prog 32 #[.pointer (some ⟨b, 0, none⟩), s.val] w fun e w' => e = .returned (.tuple #[]) ∧ ∃ v', Blk w' b (bagC v') 87 ∧ Own1 29 Sl.val w' v' (vs ++ [s]) ∧ (v'.ownBlock = v.ownBlock ∨ ∀ k, v'.ownBlock = some k → w.heap.size ≤ k) ∧ Fr (fun k => k = b ∨ v.ownBlock = some k) w w' := by
  obtain ⟨i1, hi1, hy0, hy1, hy2⟩ := info_parts infoLs
  obtain ⟨A, n, c, rfl⟩ := ho.rd.form'
  obtain ⟨As, ns, cs⟩ := s
  have c0 : w.cell? ⟨b, 13, none⟩ = some (.slice A n c) := hB.cell 13
  have HB := Lib.hid hB
  have HO := Lib.hid ho
  have HN := Lib.hid hne
  have hbl := hB.lt
  clear hB ho hne
  have hn : Hid (n = vs.length) := by obtain ⟨_, A', c', e, _⟩ := HO.out.rd; cases e; rfl
  unfold Sl.val
  go_enter Tryz.func32, Tryz.ntmps32
  go_wp2_with (at_builtin; refine wp_append rfl _ _ 44 rfl 29 i1 _ 1 24 Tryz.underlying44 hi1 hy0 hy1 hy2 rfl (by decide) _ vs.length (vs.map Sl.val) rfl ?c1 _ rfl 1 [Value.slice As ns cs] ?c2 ?c3 ?c4 ?c5)
  case c1 => exact HO.out.mono ((Fr.refl Nix _).alloc _) (fun _ _ h => h)
  case c2 => exact ((Own1.lit (T := 29) (f := Sl.val) w [⟨As, ns, cs⟩] (by simp)).rd).src Sl.one
  case c3 => simp only [maxLen]; omega
  case c4 => omega
  case c5 =>
    intro v' w' ho' hf hat
    have FX : Hid (Fr (fun k => (Value.slice A n c).ownBlock = some k) w w') := ((Fr.refl _ w).alloc _).trans hf
    have NO : Hid (Own1 29 Sl.val w' v' (vs ++ [⟨As, ns, cs⟩])) := by
      show w'.ownsRow _ _ _ _ _ _
      rw [List.length_append, List.map_append]
      exact ho'
    have NA : Hid (v'.ownBlock = (Value.slice A n c).ownBlock ∨ ∀ k, v'.ownBlock = some k → w.heap.size ≤ k) := by
      rcases hat with e | e
      · exact .inl e
      · right
        intro k hk
        rw [e] at hk
        cases hk
        simp
    have NB : Hid (Blk w' b (bagC (.slice A n c)) 87) := HB.out.mono FX.out HN.out
    have c1 : w'.cell? ⟨b, 13, none⟩ = some (.slice A n c) := NB.out.cell 13
    have f1 : w'.frozen? ⟨b, 13, none⟩ = false := NB.out.frozen 13
    clear ho' hf hat
    obtain ⟨A5, n5, c5, rfl⟩ := NO.out.rd.form'
    go_wp2_with fail
    go_end0
    have FS : Fr (fun k => k = b) w' (w'.setCell ⟨b, 13, none⟩ (.slice A5 n5 c5)) := (Fr.refl (fun k => k = b) w').setCell (p := ⟨b, 13, none⟩) (.inr rfl) _
    have hnb : ∀ k, (Value.slice A5 n5 c5).ownBlock = some k → k ≠ b := fun k hk e => by
      rcases NA.out with h | h
      · rw [h, e] at hk; exact HN.out hk
      · have := h k hk; omega
    refine ⟨rfl, _, ?_, NO.out.mono FS hnb, NA.out, (FX.out.mono (fun _ _ h => .inr h)).trans (FS.mono (fun _ _ h => .inl h))⟩
    have := NB.out.set 13 (.slice A5 n5 c5)
    exact this

set_option maxRecDepth 100000 in
set_option maxHeartbeats 4000000 in
theorem apartLines_any (w : World) (gl cl : Nat) (s0 s1 : Sl) (x0 x1 : List Rw) (h0 : w.cell? ⟨gl, 0, none⟩ = some s0.val) (h1 : w.cell? ⟨gl, 1, none⟩ = some s1.val) (o0 : OwnR w s0.val x0) (o1 : OwnR w s1.val x1) (l0 : x0.length ≤ 400) (l1 : x1.length ≤ 400)
    (hs : ∀ b, s0.val.ownBlock = some b → s1.val.ownBlock ≠ some b) :
    Calls Tryz.prog 15 #[.slice (some ⟨gl, 0, none⟩) 2 cl] w fun e w' => e = .returned (.bool true) ∧ Fr (fun k => s0.val.ownBlock = some k ∨ s1.val.ownBlock = some k) w w' := by
  have O0 := Lib.hid o0
  have O1 := Lib.hid o1
  have HS := Lib.hid hs
  have hgl : gl < w.heap.size := World.block_lt_of_cell? w _ h0
  have C : Hid (∀ k, k < 2 → ∃ s : Sl, [s0, s1][k]? = some s ∧ w.cell? ⟨gl, k, none⟩ = some s.val) := by
    intro k hk
    rcases k with _ | _ | k
    · exact ⟨s0, rfl, h0⟩
    · exact ⟨s1, rfl, h1⟩
    · omega
  clear o0 o1 hs h0 h1
  have F0 : Hid (Fr Nix w (w.alloc (.cells (bagC (.slice none 0 0)).toArray 87))) := (Fr.refl _ _).alloc _
  have B0 : Hid (Blk (w.alloc (.cells (bagC (.slice none 0 0)).toArray 87)) w.heap.size (bagC (.slice none 0 0)) 87) := Blk.new w (bagC (.slice none 0 0)) _
  go_enter Tryz.func15, Tryz.ntmps15
  go_wp2_with fail
  have ew : w.alloc (.cells (bagC (.slice none 0 0)).toArray 87) = w.alloc (.cells #[.slice none 0 0, .slice none 0 0, .slice none 0 0, .slice none 0 0, .slice none 0 0, .slice none 0 0, .slice none 0 0, .slice none 0 0, .slice none 0 0, .slice none 0 0, .slice none 0 0, .slice none 0 0, .slice none 0 0, .slice none 0 0, .slice none 0 0, .slice none 0 0, .slice none 0 0, .slice none 0 0, .slice none 0 0, .slice none 0 0, .slice none 0 0, .slice none 0 0] 87) := rfl
  rw [ew] at F0 B0
  clear ew
  obtain ⟨W0, hW0⟩ : ∃ W0, w.alloc (.cells #[.slice none 0 0, .slice none 0 0, .slice none 0 0, .slice none 0 0, .slice none 0 0, .slice none 0 0, .slice none 0 0, .slice none 0 0, .slice none 0 0, .slice none 0 0, .slice none 0 0, .slice none 0 0, .slice none 0 0, .slice none 0 0, .slice none 0 0, .slice none 0 0, .slice none 0 0, .slice none 0 0, .slice none 0 0, .slice none 0 0, .slice none 0 0, .slice none 0 0] 87) = W0 := ⟨_, rfl⟩
  rw [hW0] at F0 B0 ⊢
  clear hW0
  have L0 : Hid (∃ v, Blk W0 w.heap.size (bagC v) 87 ∧ Own1 29 Sl.val W0 v ([s0, s1].take 0) ∧ (∀ k, v.ownBlock = some k → W0.heap.size ≤ k) ∧ Fr (fun k => k = w.heap.size) W0 W0) :=
    ⟨_, B0.out, Own1.nil _ _ _, (fun k hk => by cases hk), Fr.refl _ _⟩
  have hz : Hid (w.heap.size < W0.heap.size) := B0.out.lt
  go_loopg [4] 2 (fun gg s4 wr => ∃ k : Nat, k ≤ 2 ∧ 2 - k ≤ gg ∧ s4 = .int .i64 k ∧ Hid (∃ v, Blk wr w.heap.size (bagC v) 87 ∧ Own1 29 Sl.val wr v ([s0, s1].take k) ∧ (∀ k, v.ownBlock = some k → W0.heap.size ≤ k) ∧ Fr (fun k => k = w.heap.size) W0 wr))
  case atStart => exact ⟨0, by omega, by omega, rfl, L0.out⟩
  case round =>
    clear L0 B0
    obtain ⟨k, hk, hg, rfl, H⟩ := hrel
    by_cases hlt : k < 2
    · have hlti : (k : Int) < 2 := by omega
      obtain ⟨s, hs1, hs2⟩ := C.out k hlt
      obtain ⟨v, p1, p2, p3, p4⟩ := H.out
      have x0 : wr.cell? ⟨gl, k, none⟩ = some s.val := (p4.cell (p := ⟨gl, k, none⟩) (by have := F0.out.size; show gl < _; omega) (by intro e; have e : gl = w.heap.size := e; omega)).trans (F0.out.cell' hs2)
      have HP := Lib.hid (putLines_any wr w.heap.size v _ s p1 p2 (fun e => by have := p3 _ e; have := hz.out; omega) (by simp; omega))
      have hsn : Hid ([s0, s1].take (k + 1) = [s0, s1].take k ++ [s]) := by
        show _ = _
        rw [List.take_add_one, hs1]; rfl
      have P3 := Lib.hid p3
      have P4 := Lib.hid p4
      clear p1 p2 p3 p4 hs1 hs2 H
      unfold Sl.val at x0 HP
      go_wp2_with fail
      refine HP.out.mono ?_
      rintro e w5 ⟨rfl, v5, q1, q2, q3, q4⟩
      have N : Hid (∃ v, Blk w5 w.heap.size (bagC v) 87 ∧ Own1 29 Sl.val w5 v ([s0, s1].take (k + 1)) ∧ (∀ k, v.ownBlock = some k → W0.heap.size ≤ k) ∧ Fr (fun k => k = w.heap.size) W0 w5) := by
        refine ⟨v5, q1, by rw [hsn.out]; exact q2, fun i hi => ?_, P4.out.then q4 (fun i hi e => ?_)⟩
        · rcases q3 with h | h
          · exact P3.out i (by rw [← h]; exact hi)
          · have := h i hi; have := P4.out.size; omega
        · rcases e with e | e
          · exact e
          · have := P3.out i e; omega
      clear q1 q2 q3 q4 HP
      go_wp2_with fail
      go_roundg (2 - (k + 1))
      case measure => omega
      case rel => exact ⟨k + 1, by omega, by omega, by go_num, N.out⟩
    · obtain rfl : k = 2 := by omega
      obtain ⟨v, p1, p2, p3, p4⟩ := H.out
      obtain ⟨g, cap, hv, hcell, hglt⟩ : ∃ g cap, v = .slice (some ⟨g, 0, none⟩) 2 cap ∧ (wr.cell? ⟨g, 0, none⟩ = some s0.val ∧ wr.cell? ⟨g, 1, none⟩ = some s1.val) ∧ g < wr.heap.size := by
        rcases p2.cases with ⟨_, h⟩ | ⟨g, cap, cur, e, hb, _, _, _, h4⟩
        · cases h
        · refine ⟨g, cap, e, ⟨?_, ?_⟩, hb.lt⟩
          · have := congrArg (fun l => l[0]?) h4
            rw [hb.cell]
            simpa [List.getElem?_take] using this
          · have := congrArg (fun l => l[1]?) h4
            rw [hb.cell]
            simpa [List.getElem?_take] using this
      have hgW : W0.heap.size ≤ g := p3 g (by rw [hv]; rfl)
      have hsz := F0.out.size
      have FR : Fr Nix w wr := F0.out.then p4 (fun i hi e => by omega)
      have hLs : Lists wr g 2 (fun j => if j = 0 then s0.val else s1.val) (fun j => if j = 0 then x0.length else x1.length) := by
        refine ⟨fun k hk => ?_, fun k hk => ?_, fun k hk => ?_, fun i j b hi hj h1 h2 => ?_, fun k hk => ?_, hglt⟩
        · rcases k with _ | _ | k
          · exact hcell.1
          · exact hcell.2
          · omega
        · rcases k with _ | _ | k
          · exact ⟨x0, O0.out.mono FR (fun _ _ h => h), rfl⟩
          · exact ⟨x1, O1.out.mono FR (fun _ _ h => h), rfl⟩
          · omega
        · rcases k with _ | _ | k
          · exact l0
          · exact l1
          · omega
        · rcases i with _ | _ | i <;> rcases j with _ | _ | j <;> first | rfl | omega | exact absurd h2 (HS.out b h1) | exact absurd h1 (HS.out b h2)
        · rcases k with _ | _ | k
          · intro e; have := own_lt O0.out g e; omega
          · intro e; have := own_lt O1.out g e; omega
          · omega
      have hft : ∀ i, FootL 2 (fun j => if j = 0 then s0.val else s1.val) i → s0.val.ownBlock = some i ∨ s1.val.ownBlock = some i := by
        rintro i ⟨k, hk, e⟩
        rcases k with _ | _ | k
        · exact .inl e
        · exact .inr e
        · omega
      have HA := Lib.hid (apartL_any wr w.heap.size g 2 cap _ _ (by rw [← hv]; exact p1) hLs (by omega) (fun h => by
        rcases hft _ h with h | h
        · have := own_lt O0.out _ h; omega
        · have := own_lt O1.out _ h; omega))
      have FRh := Lib.hid FR
      have HFT := Lib.hid hft
      clear p1 p2 p3 p4 hLs FR hft hcell hv H
      go_wp2_with fail
      refine HA.out.mono ?_
      rintro e w5 ⟨rfl, h5⟩
      have H5 := Lib.hid h5
      clear h5 HA
      go_wp2_with fail
      go_ret
      exact ⟨rfl, FRh.out.any.trans (H5.out.mono (fun b _ h => HFT.out b h))⟩
end Go.Proofs.YtnilbpofmohfhaaGreat

