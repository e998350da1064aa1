/- The wire's writer: what it has written, as plain bytes. -/
import Derived.Test.YtnilbpofmohfhaaGreatByteA
namespace Go.Proofs.YtnilbpofmohfhaaGreat
open Go.RowKit

/-- A writer in memory: block b; whether it went bad; its bytes. -/
def IsW (w : World) (b : Nat) (bad : Bool) (bs : List UInt8) : Prop :=
  ∃ v, Blk w b [.bool true, .bool bad, v] 145 ∧ OwnB w v bs ∧ v.ownBlock ≠ some b
def FootW (w : World) (b : Nat) : Nat → Prop := fun k => k = b ∨ ∃ v, w.cell? ⟨b, 2, none⟩ = some v ∧ v.ownBlock = some k
theorem IsW.lt {w : World} {b : Nat} {bad : Bool} {xs : List UInt8} (h : IsW w b bad xs) {k : Nat} (hk : FootW w b k) : k < w.heap.size := by
  obtain ⟨v, hb, ho, _⟩ := h
  rcases hk with rfl | ⟨v', h1, h2⟩
  · exact hb.lt
  · have : w.cell? ⟨b, 2, none⟩ = some v := hb.cell 2
    rw [this] at h1
    cases h1
    exact own_lt ho k h2
theorem IsW.mono {F : Nat → Prop} {w w' : World} {b : Nat} {bad : Bool} {xs : List UInt8} (h : IsW w b bad xs) (hf : Fr F w w') (hF : ∀ k, FootW w b k → ¬ F k) : IsW w' b bad xs := by
  obtain ⟨v, hb, ho, hne⟩ := h
  exact ⟨v, hb.mono hf (hF b (.inl rfl)), ho.mono hf (fun k hk => hF k (.inr ⟨v, hb.cell 2, hk⟩)), hne⟩
theorem FootW.same {F : Nat → Prop} {w w' : World} {b : Nat} {bad : Bool} {xs : List UInt8} (h : IsW w b bad xs) (hf : Fr F w w') (hF : ∀ k, FootW w b k → ¬ F k) {k : Nat} : FootW w' b k ↔ FootW w b k := by
  obtain ⟨v, hb, ho, hne⟩ := h
  have hc : w'.cell? ⟨b, 2, none⟩ = w.cell? ⟨b, 2, none⟩ := hf.cell (p := ⟨b, 2, none⟩) hb.lt (hF b (.inl rfl))
  unfold FootW
  rw [hc]

theorem newW_any (w : World) : Calls Tryz.prog 36 #[] w fun e w' => e = .returned (.pointer (some ⟨w.heap.size, 0, none⟩)) ∧ IsW w' w.heap.size false [] ∧ Fr Nix w w' ∧ (∀ k, FootW w' w.heap.size k → w.heap.size ≤ k) := by
  go_enter Tryz.func36, Tryz.ntmps36
  go_wp2
  go_ret
  have hB := Blk.new w [.bool true, .bool false, .slice none 0 0] 145
  refine ⟨rfl, ⟨_, hB, Own1.nil _ _ _, (fun h => by cases h)⟩, (Fr.refl _ _).alloc _, ?_⟩
  rintro k (rfl | ⟨v, h1, h2⟩)
  · exact Nat.le_refl _
  · have : _ = some (Value.slice none 0 0) := hB.cell 2
    rw [this] at h1
    cases h1
    cases h2

theorem knownW_any (w : World) (b : Nat) (m : Bool) (h : w.cell? ⟨b, 0, none⟩ = some (.bool m)) :
    Calls Tryz.prog 81 #[.pointer (some ⟨b, 0, none⟩)] w fun e w' => e = .returned (.bool m) ∧ w = w' := by
  go_enter Tryz.func81, Tryz.ntmps81
  go_wp2
  go_ret
  exact ⟨rfl, rfl⟩

set_option maxRecDepth 100000 in
set_option maxHeartbeats 2000000 in
theorem putW_any (w : World) (b : Nat) (bad : Bool) (xs ps : List UInt8) (pv : Value) (h : IsW w b bad xs) (hp : RdB w pv ps) (hB : xs.length + ps.length ≤ 1099511627776) :
    Calls Tryz.prog 144 #[.pointer (some ⟨b, 0, none⟩), pv] w fun e w' => e = .returned (.tuple #[]) ∧ IsW w' b bad (xs ++ ps) ∧ Fr (FootW w b) w w' ∧ (∀ k, FootW w' b k → FootW w b k ∨ w.heap.size ≤ k) := by
  obtain ⟨i0, hi, hz0, hz1, hz2⟩ := info_parts infoB
  obtain ⟨v, hb, ho, hne⟩ := h
  obtain ⟨A, c, rfl⟩ := ho.rd.form
  obtain ⟨A2, c2, rfl⟩ := hp.form
  have h0 : w.cell? ⟨b, 0, none⟩ = some (.bool true) := hb.cell 0
  have h2 : w.cell? ⟨b, 2, none⟩ = some (.slice A xs.length c) := hb.cell 2
  have HB := Lib.hid hb
  have HO := Lib.hid ho
  have HP := Lib.hid (hp.src by8_one)
  clear hb ho hp
  go_enter Tryz.func144, Tryz.ntmps144
  go_wp2_with (at_builtin; refine wp_append rfl _ _ 50 rfl 5 i0 _ 1 1 Tryz.underlying50 hi hz0 hz1 hz2 rfl (by decide) _ xs.length (xs.map by8) rfl HO.out _ rfl ps.length (ps.map by8) HP.out ?c3 ?c4 ?c5)
  case c3 => simp only [maxLen]; omega
  case c4 => omega
  case c5 =>
    intro v' w' ho' hf hat
    have HO' : Hid (OwnB w' v' (xs ++ ps)) := by
      show w'.ownsRow _ _ _ _ _ _
      rw [List.length_append, List.map_append]
      exact ho'
    have HF := Lib.hid hf
    have HA := Lib.hid hat
    clear ho' hf hat
    obtain ⟨A', n', c', ev⟩ := HO'.out.rd.form'
    subst ev
    have hB' : Blk w' b [.bool true, .bool bad, .slice A xs.length c] 145 := HB.out.mono HF.out hne
    have b2 : w'.cell? ⟨b, 2, none⟩ = some (.slice A xs.length c) := hB'.cell 2
    have f2 : w'.frozen? ⟨b, 2, none⟩ = false := hB'.frozen 2
    have HB' := Lib.hid hB'
    clear hB'
    go_wp2
    go_end0
    have hne' : (Value.slice A' n' c').ownBlock ≠ some b := by
      rcases HA.out with e | e
      · rw [e]; exact hne
      · rw [e]; intro h; cases h; have := HB.out.lt; omega
    refine ⟨rfl, ⟨_, HB'.out.set 2 _, ?_, hne'⟩, ?_, ?_⟩
    · exact HO'.out.mono ((Fr.refl (fun k => k = b) _).setCell (p := ⟨b, 2, none⟩) (.inr rfl) _) (fun k hk h => hne' (by rw [hk, h]))
    · have hf : Fr (FootW w b) w w' := HF.out.mono (fun k _ h => .inr ⟨_, h2, h⟩)
      exact hf.setCell (p := ⟨b, 2, none⟩) (.inr (.inl rfl)) _
    · rintro k (rfl | ⟨v4, h8, h9⟩)
      · exact .inl (.inl rfl)
      · rw [cell_set _ _ _ _ b2] at h8
        cases h8
        rcases HA.out with e | e
        · rw [e] at h9; exact .inl (.inr ⟨_, h2, h9⟩)
        · rw [e] at h9; cases h9; exact .inr (Nat.le_refl _)

/-- A number's bytes: seven bits each, the least first. -/
def varB (n : Nat) : List UInt8 := if h : n ≤ 127 then [UInt8.ofNat n] else UInt8.ofNat (n % 128 + 128) :: varB (n / 128)
termination_by n
decreasing_by omega

theorem or128' : ∀ x : Fin 256, bits BinOp.or IntKind.u8 (x.val : Int) 128 = ((x.val % 128 + 128 : Nat) : Int) := by decide +kernel
theorem or128 (m : Nat) : bits BinOp.or IntKind.u8 ((m : Int) % 256) 128 = ((UInt8.ofNat (m % 128 + 128)).toNat : Int) := by
  have := or128' ⟨m % 256, by omega⟩
  dsimp only at this
  rw [show ((m : Int) % 256) = ((m % 256 : Nat) : Int) by omega, this]
  simp
  omega
theorem of127 (m : Nat) (h : m ≤ 127) : (m : Int) = ((UInt8.ofNat m).toNat : Int) := by
  simp
  omega
theorem rdB_lit (w : World) (x : UInt8) : RdB (w.alloc (.cells #[.int .u8 (x.toNat : Int)] 5)) (.slice (some ⟨w.heap.size, 0, none⟩) 1 1) [x] := (Own1.lit (T := 5) (f := by8) w [x] (by simp)).rd
theorem varB_le (n : Nat) (h : n ≤ 127) : varB n = [UInt8.ofNat n] := by rw [varB, dif_pos h]
theorem varB_gt (n : Nat) (h : 127 < n) : varB n = UInt8.ofNat (n % 128 + 128) :: varB (n / 128) := by rw [varB, dif_neg (by omega)]

set_option maxRecDepth 100000 in
set_option maxHeartbeats 2000000 in
theorem numW_any (w : World) (b : Nat) (bad : Bool) (xs : List UInt8) (n : Nat) (h : IsW w b bad xs) (hn : n ≤ 4611686018427387903) (hB : xs.length ≤ 1000000000) :
    Calls Tryz.prog 128 #[.pointer (some ⟨b, 0, none⟩), .int .i64 n] w fun e w' => e = .returned (.tuple #[]) ∧ IsW w' b bad (xs ++ varB n) ∧ Fr (FootW w b) w w' ∧ (∀ k, FootW w' b k → FootW w b k ∨ w.heap.size ≤ k) := by
  have H0 := Lib.hid h
  clear h
  go_enter Tryz.func128, Tryz.ntmps128
  go_wp2_with fail
  go_loopg [1] 9 (fun gg s1 wr => ∃ (k : Nat) (m : Nat) (ps : List UInt8), k ≤ 9 ∧ 9 - k ≤ gg ∧ m * 128 ^ k ≤ 4611686018427387903 ∧ s1 = .int .i64 m ∧ Hid (IsW wr b bad (xs ++ ps) ∧ Fr (FootW w b) w wr ∧ (∀ k, FootW wr b k → FootW w b k ∨ w.heap.size ≤ k) ∧ ps ++ varB m = varB n ∧ ps.length = k))
  case atStart => exact ⟨0, n, [], by omega, by omega, by omega, rfl, by simpa using H0.out, Fr.refl _ _, fun _ h => .inl h, rfl, rfl⟩
  case round =>
    obtain ⟨k, m, ps, hk, hg, hm, rfl, H⟩ := hrel
    have hm1 : (m : Int) ≤ 4611686018427387903 := by
      have : 1 ≤ 128 ^ k := Nat.one_le_pow _ _ (by decide)
      have := Nat.le_mul_of_pos_right m this
      omega
    by_cases hlt : 127 < m
    · have hlt' : (127 : Int) < (m : Int) := by omega
      have hk9 : k < 9 := by
        rcases Nat.lt_or_ge k 9 with h | h
        · exact h
        · obtain rfl : k = 9 := by omega
          omega
      go_wp2_with fail
      rw [or128]
      refine (putW_any _ b bad (xs ++ ps) _ _ (H.out.1.mono ((Fr.refl Nix _).alloc _) (fun _ _ h => h)) (rdB_lit wr _) (by have := H.out.2.2.2.2; simp; omega)).mono ?_
      rintro e w1 ⟨rfl, h1, h2, h3⟩
      have N : Hid (IsW w1 b bad (xs ++ (ps ++ [UInt8.ofNat (m % 128 + 128)])) ∧ Fr (FootW w b) w w1 ∧ (∀ k, FootW w1 b k → FootW w b k ∨ w.heap.size ≤ k) ∧ (ps ++ [UInt8.ofNat (m % 128 + 128)]) ++ varB (m / 128) = varB n ∧ (ps ++ [UInt8.ofNat (m % 128 + 128)]).length = k + 1) := by
        have sm := fun k => FootW.same H.out.1 ((Fr.refl Nix wr).alloc (.cells #[.int .u8 ((UInt8.ofNat (m % 128 + 128)).toNat : Int)] 5)) (fun _ _ h => h) (k := k)
        refine ⟨by rw [← List.append_assoc]; exact h1, (H.out.2.1.alloc _).then h2 (fun i hi h => ?_), fun i hi => ?_, ?_, by simp [H.out.2.2.2.2]⟩
        · rcases H.out.2.2.1 i ((sm i).1 h) with h' | h'
          · exact h'
          · omega
        · rcases h3 i hi with h' | h'
          · exact H.out.2.2.1 i ((sm i).1 h')
          · right
            have := H.out.2.1.size
            simp at h'
            omega
        · rw [← H.out.2.2.2.1, varB_gt m hlt]
          simp
      clear h1 h2 h3 H
      go_wp2_with fail
      have hm9 : m / 128 * 128 ^ (k + 1) ≤ 4611686018427387903 := by
        have e : m / 128 * 128 ^ (k + 1) = m / 128 * 128 * 128 ^ k := by rw [Nat.pow_succ, Nat.mul_comm (128 ^ k) 128, Nat.mul_assoc]
        rw [e]
        exact Nat.le_trans (Nat.mul_le_mul_right _ (Nat.div_mul_le_self m 128)) hm
      go_roundg (9 - (k + 1))
      case measure => omega
      case rel => exact ⟨k + 1, m / 128, _, by omega, by omega, hm9, rfl, N.out⟩
    · have hlt' : ¬ (127 : Int) < (m : Int) := by omega
      go_wp2_with fail
      rw [of127 m (by omega)]
      refine (putW_any _ b bad (xs ++ ps) _ _ (H.out.1.mono ((Fr.refl Nix _).alloc _) (fun _ _ h => h)) (rdB_lit wr _) (by have := H.out.2.2.2.2; simp; omega)).mono ?_
      rintro e w1 ⟨rfl, h1, h2, h3⟩
      go_wp2_with fail
      go_end0
      have sm := fun k => FootW.same H.out.1 ((Fr.refl Nix wr).alloc (.cells #[.int .u8 ((UInt8.ofNat m).toNat : Int)] 5)) (fun _ _ h => h) (k := k)
      refine ⟨rfl, ?_, (H.out.2.1.alloc _).then h2 (fun i hi h => ?_), fun i hi => ?_⟩
      · rw [← H.out.2.2.2.1, varB_le m (by omega), ← List.append_assoc]
        exact h1
      · rcases H.out.2.2.1 i ((sm i).1 h) with h' | h'
        · exact h'
        · omega
      · rcases h3 i hi with h' | h'
        · exact H.out.2.2.1 i ((sm i).1 h')
        · right
          have := H.out.2.1.size
          simp at h'
          omega
end Go.Proofs.YtnilbpofmohfhaaGreat
