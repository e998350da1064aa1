/- A deed done to both tables; are both the same? -/
import Derived.Test.YtnilbpofmohfhaaGreatRefM
import Derived.Test.YtnilbpofmohfhaaGreatFilt
import Derived.Test.YtnilbpofmohfhaaGreatDeeds
import Derived.Test.YtnilbpofmohfhaaGreatBytes15
namespace Go.Proofs.YtnilbpofmohfhaaGreat
open Go.RowKit
attribute [local go_sem ↓] Go.wp_at_zero Go.wp_at_succ

/-- Both tables hold the same good rows, apart from each other. -/
structure Both (w : World) (b m : Nat) (xs : List Rw) : Prop where
  t : IsT w b xs
  d : IsM w m xs
  g : Good xs
  apart : ∀ k, FootT w b k → ¬ FootM w m k
theorem footT_nix {w w' : World} {b : Nat} {xs : List Rw} (h : IsT w b xs) (hf : Fr Nix w w') {k : Nat} : FootT w' b k ↔ FootT w b k := FootT.same h hf (fun _ _ h => h)
theorem footM_nix {w w' : World} {b : Nat} {xs : List Rw} (h : IsM w b xs) (hf : Fr Nix w w') {k : Nat} : FootM w' b k ↔ FootM w b k := FootM.same h hf (fun h => h)
theorem Both.nix {w w' : World} {b m : Nat} {xs : List Rw} (h : Both w b m xs) (hf : Fr Nix w w') : Both w' b m xs :=
  ⟨h.t.mono hf (fun _ _ h => h), h.d.nix hf, h.g, fun k h1 h2 => h.apart k ((footT_nix h.t hf).1 h1) ((footM_nix h.d hf).1 h2)⟩

set_option maxRecDepth 100000 in
set_option maxHeartbeats 4000000 in
theorem same_any (w : World) (b m : Nat) (xs : List Rw) (h : Both w b m xs) :
    Calls Tryz.prog 12 #[.pointer (some ⟨b, 0, none⟩), .pointer (some ⟨m, 0, none⟩)] w fun e w' => e = .returned (.bool true) ∧ Fr Nix w w' := by
  obtain ⟨A, c, hc, hr⟩ := h.d.cell
  have HB := Lib.hid (h.nix ((Fr.refl Nix w).drew))
  have HR := Lib.hid hr
  have HI := Lib.hid (in_every h.g)
  have hl : xs.length ≤ 400 := h.g.2.2
  clear h hr
  go_enter Tryz.func12, Tryz.ntmps12
  go_wp2_with fail
  go_region_held3 (fun X => X.cell? ⟨m, 0, none⟩ = some (.slice A xs.length c)) (first | go_keep | assumption)
    (first
      | (go_at_call 20; refine (many_any _ b xs HB.out.t).mono ?_; rintro e w1 ⟨rfl, rfl⟩)
      | (go_at_call 16; refine (in_any _ b xs _ _ HB.out.t).mono ?_; rintro e w1 ⟨v1, rfl, q1, q2, q3⟩; have s0 : w1.cell? ⟨m, 0, none⟩ = some (.slice A xs.length c) := q3.cell' (by go_simp))
      | (go_at_call 24; refine (sameLines_any w1 _ _ xs xs ((show OwnR w1 v1 xs by rw [← HI.out]; exact q1)).rd (HR.out.nix ⟨q3.os, q3.tape, q3.output, q3.size, q3.block⟩)).mono ?_; rintro e w2 ⟨rfl, r1⟩; rw [same_self]; have s1 : w2.cell? ⟨m, 0, none⟩ = some (.slice A xs.length c) := r1.cell' s0))
  all_goals
    go_wp2_with fail
    go_ret
    exact ⟨rfl, (Fr.undrew q3).nix r1⟩

theorem RdR.monoE {F : Nat → Prop} {w w' : World} {v : Value} {xs : List Rw} (h : RdR w v xs) (hf : Fr F w w') (hF : xs ≠ [] → ∀ k, v.ownBlock = some k → ¬ F k) : RdR w' v xs := by
  cases xs with
  | nil => obtain ⟨h0, A, c, e, _⟩ := h; exact ⟨h0, A, c, e, .inl rfl⟩
  | cons x r => exact h.mono1 hf (hF (by simp))
def Stp (w w' : World) (b m : Nat) : Prop := Fr (fun k => FootT w b k ∨ FootM w m k) w w' ∧ (∀ k, FootT w' b k → FootT w b k ∨ w.heap.size ≤ k) ∧ (∀ k, FootM w' m k → FootM w m k ∨ w.heap.size ≤ k)
theorem in_same {xs : List Rw} (h : Good xs) (lo hi : ByteArray) : inR lo hi xs = xs.filter fun x => hasS lo hi x.k := (in_filter h.1 h.2.1 lo hi).1
theorem out_same {xs : List Rw} (h : Good xs) (lo hi : ByteArray) : outR lo hi xs = xs.filter fun x => !hasS lo hi x.k := (in_filter h.1 h.2.1 lo hi).2

set_option maxRecDepth 100000 in
set_option maxHeartbeats 8000000 in
theorem act_any (w : World) (b m : Nat) (xs : List Rw) (kind : Int) (rv : Value) (rows : List Rw) (lo hi : ByteArray) (h : Both w b m xs) (hk0 : -9223372036854775808 ≤ kind) (hk1 : kind < 9223372036854775808) (hrv : RdR w rv rows) (hrl : rows.length ≤ 1200)
    (hrf : rows ≠ [] → ∀ k, rv.ownBlock = some k → ¬ FootT w b k ∧ ¬ FootM w m k) :
    Calls Tryz.prog 11 #[.pointer (some ⟨b, 0, none⟩), .pointer (some ⟨m, 0, none⟩), .agg #[.int .i64 kind, rv, .string lo, .string hi]] w fun e w' => e = .returned (.bool true) ∧ (∃ ys, Both w' b m ys) ∧ Stp w w' b m := by
  obtain ⟨Ar, cr, rfl⟩ : ∃ A c, rv = .slice A rows.length c := by obtain ⟨_, A, c, e, _⟩ := hrv; exact ⟨A, c, e⟩
  have HW := Lib.hid h
  have HR := Lib.hid hrv
  have HF := Lib.hid hrf
  have hl : xs.length ≤ 400 := h.g.2.2
  have ltT : Hid (∀ k, FootT w b k → k < w.heap.size) := fun k hk => h.t.lt hk
  have ltM : Hid (∀ k, FootM w m k → k < w.heap.size) := fun k hk => h.d.lt hk
  have F0 : Hid (Fr Nix w (w.alloc (.cells #[.int .i64 kind, .slice Ar rows.length cr, .string lo, .string hi] 38))) := (Fr.refl _ _).alloc _
  have B0 : Hid (Blk (w.alloc (.cells #[.int .i64 kind, .slice Ar rows.length cr, .string lo, .string hi] 38)) w.heap.size [.int .i64 kind, .slice Ar rows.length cr, .string lo, .string hi] 38) := Blk.new w [.int .i64 kind, .slice Ar rows.length cr, .string lo, .string hi] _
  clear h hrv hrf
  have hp0 := Int.emod_nonneg kind (show (5 : Int) ≠ 0 by omega)
  have hp1 := Int.emod_lt_of_pos kind (show (0 : Int) < 5 by omega)
  have HPI := fun W => Lib.hid (pick_any W kind 5 (by omega) (by omega) hk0 hk1)
  generalize kind % 5 = p at HPI hp0 hp1
  go_enter Tryz.func11, Tryz.ntmps11
  go_wp2_with fail
  refine (HPI _).out.mono ?_
  rintro e w1 ⟨rfl, hw1⟩
  rw [hw1] at F0 B0
  clear hw1
  have c1 : w1.cell? ⟨w.heap.size, 1, none⟩ = some (.slice Ar rows.length cr) := B0.out.cell 1
  have c2 : w1.cell? ⟨w.heap.size, 2, none⟩ = some (.string lo) := B0.out.cell 2
  have c3 : w1.cell? ⟨w.heap.size, 3, none⟩ = some (.string hi) := B0.out.cell 3
  have c3' : w1.cell? ⟨w.heap.size, 2 + 1, none⟩ = some (.string hi) := B0.out.cell 3
  have T1 := Lib.hid ((HW.out.nix F0.out).nix ((Fr.refl Nix w1).drew))
  have FD : Hid (Fr Nix w w1.drew) := F0.out.drew
  by_cases h3 : p = 3
  · subst h3
    go_wp2_with fail
    go_region_held3 (fun X => X.cell? ⟨w.heap.size, 2, none⟩ = some (.string lo) ∧ X.cell? ⟨w.heap.size, 3, none⟩ = some (.string hi)) (first | go_keep | (constructor; assumption; assumption))
      (first
        | (go_at_call 16; refine (in_any _ b xs lo hi T1.out.t).mono ?_; rintro e w2 ⟨v2, rfl, q1, q2, q3⟩; have s0 : w2.cell? ⟨w.heap.size, 2, none⟩ = some (.string lo) := q3.cell' (by go_simp); have s1 : w2.cell? ⟨w.heap.size, 3, none⟩ = some (.string hi) := q3.cell' (by go_simp))
        | (go_at_call 27; refine (inM_any w2 m xs lo hi (T1.out.d.nix q3) (by omega)).mono ?_; rintro e w3 ⟨v3, rfl, p1, p2, p3⟩; have s2 : w3.cell? ⟨w.heap.size, 2, none⟩ = some (.string lo) := p3.cell' s0; have s3 : w3.cell? ⟨w.heap.size, 3, none⟩ = some (.string hi) := p3.cell' s1)
        | (go_at_call 24; refine (sameLines_any w3 v2 v3 (inR lo hi xs) (inR lo hi xs) (q1.mono p3 (fun _ _ h => h)).rd (by rw [in_same HW.out.g]; exact p1.rd)).mono ?_; rintro e w4 ⟨rfl, r1⟩; rw [same_self]; have s4 : w4.cell? ⟨w.heap.size, 2, none⟩ = some (.string lo) := r1.cell' s2; have s5 : w4.cell? ⟨w.heap.size, 3, none⟩ = some (.string hi) := r1.cell' s3))
    all_goals
      go_wp2_with fail
      go_ret
      have FF : Fr Nix w w4 := ((FD.out.nix q3).nix p3).nix r1
      exact ⟨rfl, ⟨xs, HW.out.nix FF⟩, FF.any, fun k hk => .inl ((footT_nix HW.out.t FF).1 hk), fun k hk => .inl ((footM_nix HW.out.d FF).1 hk)⟩
  · by_cases h4 : p = 4
    · subst h4
      have hbx : Hid (∀ k, FootT w1.drew b k → k < w.heap.size) := fun k hk => ltT.out k ((footT_nix HW.out.t FD.out).1 hk)
      have hmx : Hid (∀ k, FootM w1.drew m k → k < w.heap.size) := fun k hk => ltM.out k ((footM_nix HW.out.d FD.out).1 hk)
      go_wp2_with fail
      go_region_held3 (fun X => X.cell? ⟨w.heap.size, 2, none⟩ = some (.string lo) ∧ X.cell? ⟨w.heap.size, 3, none⟩ = some (.string hi)) (first | go_keep | (constructor; assumption; assumption))
        (first
          | (go_at_call 21; refine (take_any _ b xs lo hi T1.out.t).mono ?_; rintro e w2 ⟨v2, rfl, q1, q2, q3, q4, q5⟩; have B2 : Blk w2 w.heap.size [.int .i64 kind, .slice Ar rows.length cr, .string lo, .string hi] 38 := (B0.out.mono ((Fr.refl Nix w1).drew) (fun h => h)).mono q4 (fun h => by have := hbx.out _ h; omega); have s0 : w2.cell? ⟨w.heap.size, 2, none⟩ = some (.string lo) := B2.cell 2; have s1 : w2.cell? ⟨w.heap.size, 3, none⟩ = some (.string hi) := B2.cell 3)
          | (go_at_call 28; refine (takeM_any w2 m xs lo hi (T1.out.d.mono q4 (fun k h1 h2 => T1.out.apart k h2 h1)) (by omega)).mono ?_; rintro e w3 ⟨v3, rfl, p1, p2, p3, p4, p5, p6⟩; have B3 : Blk w3 w.heap.size [.int .i64 kind, .slice Ar rows.length cr, .string lo, .string hi] 38 := B2.mono p4 (fun h => by have := hmx.out m (.inl rfl); omega); have s2 : w3.cell? ⟨w.heap.size, 2, none⟩ = some (.string lo) := B3.cell 2; have s3 : w3.cell? ⟨w.heap.size, 3, none⟩ = some (.string hi) := B3.cell 3)
          | (go_at_call 24; refine (sameLines_any w3 v2 v3 (inR lo hi xs) (inR lo hi xs) (q1.mono p4 (fun k h1 h2 => by have := q2 k h1; have := hmx.out m (.inl rfl); have := FD.out.size; omega)).rd (by rw [in_same HW.out.g]; exact p1.rd)).mono ?_; rintro e w4 ⟨rfl, r1⟩; rw [same_self]; have s4 : w4.cell? ⟨w.heap.size, 2, none⟩ = some (.string lo) := r1.cell' s2; have s5 : w4.cell? ⟨w.heap.size, 3, none⟩ = some (.string hi) := r1.cell' s3))
      all_goals
        go_wp2_with fail
        go_ret
        have hT3 : ∀ k, FootT w2 b k → k ≠ m := fun k hk e => T1.out.apart k (q5 k hk) (.inl e)
        have q3' : IsT w3 b (outR lo hi xs) := q3.mono p4 hT3
        have fT : ∀ k, FootT w4 b k → FootT w1.drew b k := fun k hk => q5 k ((FootT.same q3 p4 hT3).1 ((footT_nix q3' r1).1 hk))
        have fM : ∀ k, FootM w4 m k → k = m ∨ w2.heap.size ≤ k := fun k hk => p5 k ((footM_nix p3 r1).1 hk)
        have sz2 := q4.size
        have sz0 := FD.out.size
        refine ⟨rfl, ⟨outR lo hi xs, ⟨q3'.mono r1 (fun _ _ h => h), ?_, ⟨out_rising HW.out.g.1, ?_, Nat.le_trans (out_length lo hi xs HW.out.g.1) HW.out.g.2.2⟩, ?_⟩⟩, ?_, fun k hk => .inl ((footT_nix HW.out.t FD.out).1 (fT k hk)), fun k hk => ?_⟩
        · rw [out_same HW.out.g]; exact p3.nix r1
        · intro x hx
          rw [out_same HW.out.g] at hx
          exact HW.out.g.2.1 x (List.mem_filter.1 hx).1
        · intro k h1 h2
          rcases fM k h2 with h | h
          · exact T1.out.apart k (fT k h1) (.inl h)
          · have := hbx.out k (fT k h1); omega
        · refine ((FD.out.any.then q4 (fun i hi e => .inl ((footT_nix HW.out.t FD.out).1 e))).then p4 (fun i hi e => .inr (.inl e))).nix r1
        · rcases fM k hk with h | h
          · exact .inl (.inl h)
          · exact .inr (by omega)
    · go_wp2_with fail
      refine (lent_any w1 _ rows (HR.out.nix F0.out) (by omega)).mono ?_
      rintro e w2 ⟨g, rfl, l1, l2, l3⟩
      have hgl : Hid (g < w2.heap.size) := (l1.at rows.length (by simp [marksR])).1
      have d1 : w2.cell? ⟨w.heap.size, 1, none⟩ = some (.slice Ar rows.length cr) := l3.cell' c1
      have T2 := Lib.hid ((HW.out.nix (F0.out.nix l3)).nix ((Fr.refl Nix w2).drew))
      have F2 : Hid (Fr Nix w w2.drew) := (F0.out.nix l3).drew
      have B2 : Hid (Blk w2.drew w.heap.size [.int .i64 kind, .slice Ar rows.length cr, .string lo, .string hi] 38) := (B0.out.mono l3 (fun h => h)).mono ((Fr.refl Nix _).drew) (fun h => h)
      have LL : Hid (RdR w2.drew (.slice (some ⟨g, 0, none⟩) (rows.length + 12) (rows.length + 12)) (rows ++ marksR 12)) := l1.nix ((Fr.refl Nix _).drew)
      have RR : Hid (RdR w2.drew (.slice Ar rows.length cr) rows) := HR.out.nix F2.out
      have hgw : Hid (w1.heap.size ≤ g) := l2
      have hbx : Hid (∀ k, FootT w2.drew b k → k < w.heap.size) := fun k hk => ltT.out k ((footT_nix HW.out.t F2.out).1 hk)
      have hmx : Hid (∀ k, FootM w2.drew m k → k < w.heap.size) := fun k hk => ltM.out k ((footM_nix HW.out.d F2.out).1 hk)
      have rf : Hid (rows ≠ [] → ∀ k, (Value.slice Ar rows.length cr).ownBlock = some k → ¬ FootT w2.drew b k ∧ ¬ FootM w2.drew m k) := fun hne k hk => ⟨fun h => (HF.out hne k hk).1 ((footT_nix HW.out.t F2.out).1 h), fun h => (HF.out hne k hk).2 ((footM_nix HW.out.d F2.out).1 h)⟩
      have sz1 : w.heap.size ≤ w1.heap.size := F0.out.size
      clear l1 l2 l3 c1 c2 c3 c3'
      go_wp2_with fail
      go_region_held3 (fun X => X.cell? ⟨w.heap.size, 1, none⟩ = some (.slice Ar rows.length cr)) (first | go_keep | assumption)
        (first
          | (go_at_call 18; refine (putT_any _ b xs rows _ T2.out.t LL.out.front (by omega)).mono ?_; rintro e w3 ⟨rfl, q1, q2, q3⟩; have B3 : Blk w3 w.heap.size [.int .i64 kind, .slice Ar rows.length cr, .string lo, .string hi] 38 := B2.out.mono q2 (fun h => by have := hbx.out b (.inl rfl); omega); have s0 : w3.cell? ⟨w.heap.size, 1, none⟩ = some (.slice Ar rows.length cr) := B3.cell 1)
          | (go_at_call 19; refine (putM_any w3 m xs rows _ (T2.out.d.mono q2 (fun k h1 h2 => T2.out.apart k (.inl h2) h1)) HW.out.g.1 HW.out.g.2.2 (RR.out.monoE q2 (fun hne k h1 h2 => (rf.out hne k h1).1 (.inl h2))) (by omega)).mono ?_; rintro e w4 ⟨rfl, p1, p2, p3⟩; have B4 : Blk w4 w.heap.size [.int .i64 kind, .slice Ar rows.length cr, .string lo, .string hi] 38 := B3.mono p2 (fun h => by have := hmx.out m (.inl rfl); omega); have s1 : w4.cell? ⟨w.heap.size, 1, none⟩ = some (.slice Ar rows.length cr) := B4.cell 1)
          | (go_at_call 30; refine (kept_any w4 g _ rows ((LL.out.mono1 q2 (fun k h1 h2 => by cases h1; have h3 : g = b := h2; have := hbx.out b (.inl rfl); have := hgw.out; omega)).mono1 p2 (fun k h1 h2 => by cases h1; have h3 : g = m := h2; have := hmx.out m (.inl rfl); have := hgw.out; omega)) ((RR.out.monoE q2 (fun hne k h1 h2 => (rf.out hne k h1).1 (.inl h2))).monoE p2 (fun hne k h1 h2 => (rf.out hne k h1).2 (.inl h2))) (by omega)).mono ?_; rintro e w5 ⟨rfl, r1⟩; have s2 : w5.cell? ⟨w.heap.size, 1, none⟩ = some (.slice Ar rows.length cr) := r1.cell' s1))
      all_goals
        go_wp2_with fail
        go_ret
        have hT4 : ∀ k, FootT w3 b k → k ≠ m := fun k hk e => by
          rcases q3 k hk with h | h
          · exact T2.out.apart k h (.inl e)
          · have := hmx.out m (.inl rfl); have := F2.out.size; omega
        have q1' : IsT w4 b (putT xs rows) := q1.mono p2 hT4
        have fT : ∀ k, FootT w5 b k → FootT w2.drew b k ∨ w2.drew.heap.size ≤ k := fun k hk => q3 k ((FootT.same q1 p2 hT4).1 ((footT_nix q1' r1).1 hk))
        have dM : ∀ k, FootM w3 m k → FootM w2.drew m k := fun k hk => (FootM.same T2.out.d q2 (fun e => T2.out.apart m (.inl e) (.inl rfl))).1 hk
        have fM : ∀ k, FootM w5 m k → FootM w2.drew m k ∨ w3.heap.size ≤ k := fun k hk => by
          rcases p3 k ((footM_nix p1 r1).1 hk) with h | h
          · exact .inl (dM k h)
          · exact .inr h
        have sz2 := q2.size
        have sz0 := F2.out.size
        refine ⟨rfl, ⟨putT xs rows, ⟨q1'.mono r1 (fun _ _ h => h), p1.nix r1, good_put HW.out.g rows, ?_⟩⟩, ?_, fun k hk => ?_, fun k hk => ?_⟩
        · intro k h1 h2
          have hlt1 : k < w3.heap.size := q1.lt ((FootT.same q1 p2 hT4).1 ((footT_nix q1' r1).1 h1))
          rcases fM k h2 with h | h
          · rcases fT k h1 with h' | h'
            · exact T2.out.apart k h' h
            · have := hmx.out k h; omega
          · omega
        · refine ((F2.out.any.then q2 (fun i hi e => .inl ((footT_nix HW.out.t F2.out).1 (.inl e)))).then p2 (fun i hi e => .inr (.inl e))).nix r1
        · rcases fT k hk with h | h
          · exact .inl ((footT_nix HW.out.t F2.out).1 h)
          · exact .inr (by omega)
        · rcases fM k hk with h | h
          · exact .inl ((footM_nix HW.out.d F2.out).1 h)
          · exact .inr (by omega)
end Go.Proofs.YtnilbpofmohfhaaGreat
