/- The wire's reader: what is left, what is taken. -/
import Derived.Test.YtnilbpofmohfhaaGreatByteA
import Derived.Laws.BitsLemmas
namespace Go.Proofs.YtnilbpofmohfhaaGreat
open Go.RowKit

/-- A slice's length is no greater than its capacity. -/
def _root_.Go.Value.capOk (v : Value) (n : Nat) : Prop := ∃ A c, v = .slice A n c ∧ n ≤ c
/-- A reader in memory: block b; whether it went bad; what is left. -/
def IsRd (w : World) (b : Nat) (bad : Bool) (rest : List UInt8) : Prop :=
  ∃ v, Blk w b [.bool true, .bool bad, v] 150 ∧ RdB w v rest ∧ v.ownBlock ≠ some b ∧ (bad = true → rest = []) ∧ v.capOk rest.length ∧ (∀ k, v.ownBlock = some k → k < w.heap.size)
def FootRd (w : World) (b : Nat) : Nat → Prop := fun k => k = b ∨ ∃ v, w.cell? ⟨b, 2, none⟩ = some v ∧ v.ownBlock = some k
theorem IsRd.mono {F : Nat → Prop} {w w' : World} {b : Nat} {bad : Bool} {xs : List UInt8} (h : IsRd w b bad xs) (hf : Fr F w w') (hF : ∀ k, FootRd w b k → ¬ F k) : IsRd w' b bad xs := by
  obtain ⟨v, hb, ho, hne, hx, hc, hl⟩ := h
  exact ⟨v, hb.mono hf (hF b (.inl rfl)), ho.mono hf (fun k hk => hF k (.inr ⟨v, hb.cell 2, hk⟩)), hne, hx, hc, fun k hk => Nat.lt_of_lt_of_le (hl k hk) hf.size⟩
theorem IsRd.flt {w : World} {b : Nat} {bad : Bool} {xs : List UInt8} (h : IsRd w b bad xs) {k : Nat} (hk : FootRd w b k) : k < w.heap.size := by
  obtain ⟨v, hb, _, _, _, _, hl⟩ := h
  rcases hk with rfl | ⟨v', h1, h2⟩
  · exact hb.lt
  · have : w.cell? ⟨b, 2, none⟩ = some v := hb.cell 2
    rw [this] at h1
    cases h1
    exact hl k h2
theorem IsRd.nix {w w' : World} {b : Nat} {bad : Bool} {xs : List UInt8} (h : IsRd w b bad xs) (hf : Fr Nix w w') : IsRd w' b bad xs := h.mono hf (fun _ _ h => h)
theorem IsRd.lt {w : World} {b : Nat} {bad : Bool} {xs : List UInt8} (h : IsRd w b bad xs) : b < w.heap.size := by obtain ⟨v, hb, _⟩ := h; exact hb.lt
theorem FootRd.same {F : Nat → Prop} {w w' : World} {b : Nat} {bad : Bool} {xs : List UInt8} (h : IsRd w b bad xs) (hf : Fr F w w') (hF : ¬ F b) {k : Nat} : FootRd w' b k ↔ FootRd w b k := by
  have hc : w'.cell? ⟨b, 2, none⟩ = w.cell? ⟨b, 2, none⟩ := hf.cell (p := ⟨b, 2, none⟩) h.lt hF
  unfold FootRd
  rw [hc]
/-- A step of the reader: what is left, whether it went bad; only its own block was written; it lies where it lay. -/
def StepR (w w' : World) (b : Nat) (bad : Bool) (rest : List UInt8) : Prop := IsRd w' b bad rest ∧ Fr (fun k => k = b) w w' ∧ ∀ k, FootRd w' b k → FootRd w b k
theorem StepR.refl {w : World} {b : Nat} {bad : Bool} {ys : List UInt8} (h : IsRd w b bad ys) : StepR w w b bad ys := ⟨h, Fr.refl _ _, fun _ h => h⟩
theorem StepR.trans {w w1 w2 : World} {b : Nat} {bad bad2 : Bool} {xs ys : List UInt8} (h : StepR w w1 b bad xs) (k : StepR w1 w2 b bad2 ys) : StepR w w2 b bad2 ys :=
  ⟨k.1, h.2.1.trans k.2.1, fun i hi => h.2.2 i (k.2.2 i hi)⟩
theorem StepR.nix {w w1 w2 : World} {b : Nat} {bad : Bool} {xs : List UInt8} (h : StepR w w1 b bad xs) (k : Fr Nix w1 w2) : StepR w w2 b bad xs :=
  h.trans ⟨h.1.nix k, k.any, fun _ hi => (FootRd.same h.1 k (fun h => h)).1 hi⟩

theorem newRd_any (w : World) (v : Value) (bs : List UInt8) (hv : RdB w v bs) (hB : bs.length ≤ 1000000000) :
    Calls Tryz.prog 39 #[v] w fun e w' => ∃ b, e = .returned (.pointer (some ⟨b, 0, none⟩)) ∧ IsRd w' b false bs ∧ Fr Nix w w' ∧ ∀ k, FootRd w' b k → w.heap.size ≤ k := by
  have HC := Lib.hid (cloneB_any w v bs hv (by omega))
  clear hv
  go_enter Tryz.func39, Tryz.ntmps39
  go_wp2_with fail
  refine HC.out.mono ?_
  rintro e w1 ⟨v1, rfl, h1, h2, h3⟩
  have H1 := Lib.hid h1
  have H2 := Lib.hid h2
  have H3 := Lib.hid h3
  clear h1 h2 h3
  obtain ⟨A, n, c, e1⟩ := H1.out.rd.form'
  subst e1
  go_wp2_with fail
  go_ret
  have hB := Blk.new w1 [.bool true, .bool false, .slice A n c] 150
  have hne : (Value.slice A n c).ownBlock ≠ some w1.heap.size := fun h => by have := own_lt H1.out _ h; omega
  refine ⟨_, rfl, ⟨_, hB, H1.out.rd.nix ((Fr.refl _ _).alloc _), hne, (fun h => by cases h), ?_, (fun k hk => by rw [World.size_alloc]; exact Nat.lt_succ_of_lt (own_lt H1.out k hk))⟩, H3.out.alloc _, ?_⟩
  · rcases H1.out.cases with ⟨e, rfl⟩ | ⟨g, cap, cur, e, _, h1, _⟩
    · cases e; exact ⟨_, _, rfl, Nat.le_refl _⟩
    · cases e; exact ⟨_, _, rfl, h1⟩
  rintro k (rfl | ⟨v, g1, g2⟩)
  · exact H3.out.size
  · have : _ = some (Value.slice A n c) := hB.cell 2
    rw [this] at g1
    cases g1
    exact H2.out k g2

theorem onR_any (w : World) (b : Nat) (bad : Bool) (xs : List UInt8) (h : IsRd w b bad xs) :
    Calls Tryz.prog 91 #[.pointer (some ⟨b, 0, none⟩)] w fun e w' => e = .returned (.bool !bad) ∧ w = w' := by
  obtain ⟨v, hb, _⟩ := h
  have h0 : w.cell? ⟨b, 0, none⟩ = some (.bool true) := hb.cell 0
  have h1 : w.cell? ⟨b, 1, none⟩ = some (.bool bad) := hb.cell 1
  clear hb
  go_enter Tryz.func91, Tryz.ntmps91
  go_wp2
  go_ret
  exact ⟨rfl, rfl⟩

theorem leftR_any (w : World) (b : Nat) (bad : Bool) (xs : List UInt8) (h : IsRd w b bad xs) :
    Calls Tryz.prog 42 #[.pointer (some ⟨b, 0, none⟩)] w fun e w' => e = .returned (.int .i64 xs.length) ∧ w = w' := by
  have HO := Lib.hid (onR_any w b bad xs h)
  obtain ⟨v, hb, hr, _, hx, _⟩ := h
  obtain ⟨A, c, rfl⟩ := hr.form
  have h2 : w.cell? ⟨b, 2, none⟩ = some (.slice A xs.length c) := hb.cell 2
  clear hb hr
  cases bad with
  | true =>
    obtain rfl := hx rfl
    clear hx
    go_enter Tryz.func42, Tryz.ntmps42
    go_wp2_with (go_at_call 91; refine HO.out.mono ?_; rintro e w' ⟨rfl, rfl⟩)
    go_ret
    exact ⟨rfl, rfl⟩
  | false =>
    clear hx
    go_enter Tryz.func42, Tryz.ntmps42
    go_wp2_with (go_at_call 91; refine HO.out.mono ?_; rintro e w' ⟨rfl, rfl⟩)
    go_ret
    exact ⟨rfl, rfl⟩

theorem endR_any (w : World) (b : Nat) (bad : Bool) (xs : List UInt8) (h : IsRd w b bad xs) :
    Calls Tryz.prog 85 #[.pointer (some ⟨b, 0, none⟩)] w fun e w' => e = .returned (.int .i64 (if bad then 4 else if xs = [] then 0 else 4)) ∧ w = w' := by
  obtain ⟨v, hb, hr, _, hx, _⟩ := h
  obtain ⟨A, c, rfl⟩ := hr.form
  have h0 : w.cell? ⟨b, 0, none⟩ = some (.bool true) := hb.cell 0
  have h1 : w.cell? ⟨b, 1, none⟩ = some (.bool bad) := hb.cell 1
  have h2 : w.cell? ⟨b, 2, none⟩ = some (.slice A xs.length c) := hb.cell 2
  clear hb hr
  cases bad with
  | true =>
    clear hx
    go_enter Tryz.func85, Tryz.ntmps85
    go_wp2
    go_ret
    exact ⟨rfl, rfl⟩
  | false =>
    clear hx
    by_cases hn : xs = []
    · subst hn
      go_enter Tryz.func85, Tryz.ntmps85
      go_wp2
      go_ret
      exact ⟨rfl, rfl⟩
    · have hp : (0 : Int) < (xs.length : Int) := by have := List.length_pos_iff.2 hn; omega
      have HN := Lib.hid hn
      clear hn
      go_enter Tryz.func85, Tryz.ntmps85
      go_wp2
      go_ret
      exact ⟨by first | rfl | (rw [if_neg HN.out]; rfl), rfl⟩

theorem failR_any (w : World) (b : Nat) (bad : Bool) (xs : List UInt8) (h : IsRd w b bad xs) :
    Calls Tryz.prog 131 #[.pointer (some ⟨b, 0, none⟩)] w fun e w' => e = .returned (.tuple #[]) ∧ StepR w w' b true [] := by
  obtain ⟨v, hb, hr, hne, hx, _⟩ := h
  have h1 : w.cell? ⟨b, 1, none⟩ = some (.bool bad) := hb.cell 1
  have h2 : w.cell? ⟨b, 2, none⟩ = some v := hb.cell 2
  have f1 : w.frozen? ⟨b, 1, none⟩ = false := hb.frozen 1
  have f2 : w.frozen? ⟨b, 2, none⟩ = false := hb.frozen 2
  have HB := Lib.hid hb
  clear hb hr hx
  go_enter Tryz.func131, Tryz.ntmps131
  go_wp2
  go_end0
  have hB2 := (HB.out.set 1 (.bool true)).set 2 (.slice none 0 0)
  refine ⟨rfl, ⟨_, hB2, Rd1.nil _ _ _ _, (fun h => by cases h), (fun _ => rfl), ⟨_, _, rfl, Nat.le_refl _⟩, (fun k hk => by cases hk)⟩, ((Fr.refl (fun k => k = b) w).setCell (p := ⟨b, 1, none⟩) (.inr rfl) _).setCell (p := ⟨b, 2, none⟩) (.inr rfl) _, ?_⟩
  rintro k (rfl | ⟨v, g1, g2⟩)
  · exact .inl rfl
  · have : _ = some (Value.slice none 0 0) := hB2.cell 2
    rw [this] at g1
    cases g1
    cases g2

theorem own_map (A : Option Addr) (n c : Nat) : (Value.slice A n c).ownBlock = A.map (·.block) := by cases A <;> rfl
set_option maxHeartbeats 2000000 in
theorem takeR_any (w : World) (b : Nat) (bad : Bool) (xs : List UInt8) (n : Nat) (h : IsRd w b bad xs) (hn : n ≤ 4611686018427387903) :
    Calls Tryz.prog 130 #[.pointer (some ⟨b, 0, none⟩), .int .i64 n] w fun e w' => ∃ v, e = .returned v ∧ RdB w' v (if n ≤ xs.length then xs.take n else []) ∧ (∀ k, v.ownBlock = some k → FootRd w b k ∧ k ≠ b) ∧
      (if n ≤ xs.length then StepR w w' b bad (xs.drop n) else StepR w w' b true []) := by
  have HF := Lib.hid (failR_any w b bad xs h)
  obtain ⟨v, hb, hr, hne, hx, ⟨A, c, rfl, hcap⟩, hol⟩ := h
  have h1 : w.cell? ⟨b, 1, none⟩ = some (.bool bad) := hb.cell 1
  have h2 : w.cell? ⟨b, 2, none⟩ = some (.slice A xs.length c) := hb.cell 2
  have f2 : w.frozen? ⟨b, 2, none⟩ = false := hb.frozen 2
  have HB := Lib.hid hb
  have HR := Lib.hid hr
  have HX := Lib.hid hx
  have hAb : Hid (∀ k, (Value.slice A xs.length c).ownBlock = some k → FootRd w b k ∧ k ≠ b) := fun k hk => ⟨.inr ⟨_, h2, hk⟩, fun e => hne (by rw [hk, e])⟩
  clear hb hr hx
  by_cases hle : n ≤ xs.length
  · simp only [if_pos hle]
    have hli : (n : Int) ≤ (xs.length : Int) := by omega
    have hlc : (n : Int) ≤ (c : Int) := by omega
    have hlc2 : n ≤ c := by omega
    have htk : (xs.take n).length = n := by simp; omega
    have hdl : (xs.drop n).length = xs.length - n := by simp
    have HT : Hid (xs.take n = (xs.take n).drop 0) := rfl
    have HD : Hid (xs.drop n = (xs.take xs.length).drop n) := by show _ = _; rw [List.take_length]
    have key : ∀ (A1 A2 : Option Addr) (c1 : Nat), (A1 = A) → (A2.map (·.block) = A.map (·.block)) → (n < xs.length → ∀ b off, A = some ⟨b, off, none⟩ → A2 = some ⟨b, off + n, none⟩) → xs.length - n ≤ c1 → ∃ v, Value.slice A1 n n = v ∧ RdB (w.setCell ⟨b, 2, none⟩ (.slice A2 (xs.length - n) c1)) v (xs.take n) ∧ (∀ k, v.ownBlock = some k → FootRd w b k ∧ k ≠ b) ∧ StepR w (w.setCell ⟨b, 2, none⟩ (.slice A2 (xs.length - n) c1)) b bad (xs.drop n) := by
      rintro A1 A2 c1 rfl hA2 hA3 hc1
      have hfr : Fr (fun k => k = b) w (w.setCell ⟨b, 2, none⟩ (.slice A2 (xs.length - n) c1)) := (Fr.refl (fun k => k = b) w).setCell (p := ⟨b, 2, none⟩) (.inr rfl) _
      have hkb : ∀ k, (Value.slice A1 xs.length c).ownBlock = some k → ¬ k = b := fun k hk e => hne (by rw [hk, e])
      have hbl : ∀ m cc k, (Value.slice A2 m cc).ownBlock = some k → (Value.slice A1 xs.length c).ownBlock = some k := by
        intro m cc k hk
        rw [own_map] at hk ⊢
        rw [← hA2, hk]
      have hB2 := HB.out.set 2 (.slice A2 (xs.length - n) c1)
      refine ⟨_, rfl, ?_, fun k hk => hAb.out k (by rw [own_map] at hk ⊢; exact hk), ⟨_, hB2, ?_, ?_, ?_, ?_, ?_⟩, hfr, ?_⟩
      · have := (HR.out.cut 0 n (Nat.zero_le _) hle A1 n (fun _ b off e => e)).mono hfr (fun k hk => hkb k (by rw [own_map] at hk ⊢; exact hk))
        simpa using this
      · have := (HR.out.cut n xs.length hle (Nat.le_refl _) A2 c1 (fun h b off e => hA3 h b off e)).mono hfr (fun k hk => hkb k (hbl _ _ k hk))
        rw [HD.out]
        exact this
      · intro h
        exact hne (hbl _ _ b h)
      · intro hb
        rw [HX.out hb, List.drop_nil]
      · exact ⟨_, _, by rw [hdl], by rw [hdl]; exact hc1⟩
      · intro k hk
        rw [World.size_setCell]
        exact hol k (hbl _ _ k hk)
      · rintro k (rfl | ⟨v, g1, g2⟩)
        · exact .inl rfl
        · have : _ = some (Value.slice A2 (xs.length - n) c1) := hB2.cell 2
          rw [this] at g1
          cases g1
          exact .inr ⟨_, h2, hbl _ _ k g2⟩
    by_cases hcn : c = n
    · go_enter Tryz.func130, Tryz.ntmps130
      have KEY := Lib.hid key
      clear key HT HD
      go_wp2
      go_ret
      obtain ⟨v, rfl, hh⟩ := KEY.out A A 0 rfl rfl (fun h => by omega) (by omega)
      exact ⟨_, rfl, hh⟩
    · go_enter Tryz.func130, Tryz.ntmps130
      have KEY := Lib.hid key
      clear key HT HD
      go_wp2
      go_ret
      obtain ⟨v, rfl, hh⟩ := KEY.out A (A.map (fun x => x.add n)) (c - n) rfl (by
        cases A with
        | none => rfl
        | some a => simp only [Option.map_some, Addr.add]; split <;> rfl) (fun h b' off e => by rw [e, Option.map_some, addr_add]) (by omega)
      exact ⟨_, rfl, hh⟩
  · simp only [if_neg hle]
    have hli : (xs.length : Int) < (n : Int) := by omega
    go_enter Tryz.func130, Tryz.ntmps130
    go_wp2_with (go_at_call 131; refine HF.out.mono ?_; rintro e w1 ⟨rfl, h1⟩)
    go_ret
    exact ⟨_, rfl, Rd1.nil _ _ _ _, (fun k hk => by cases hk), h1⟩
end Go.Proofs.YtnilbpofmohfhaaGreat
