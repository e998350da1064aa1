/- The document's table of rows: Get, In, Take. -/
import Derived.Test.YtnilbpofmohfhaaGreatRefH
import Derived.Test.YtnilbpofmohfhaaGreatRowL
import Derived.Test.YtnilbpofmohfhaaGreatRowsE
import Derived.Test.YtnilbpofmohfhaaGreatGt
import Derived.Test.YtnilbpofmohfhaaGreatReadD
import Derived.Test.YtnilbpofmohfhaaGreatKitR
namespace Go.Proofs.YtnilbpofmohfhaaGreat
open Go.RowKit

/-- The document's table in memory: block b holds its rows' slice. -/
def IsM (w : World) (b : Nat) (xs : List Rw) : Prop := ∃ v, Blk w b [v] 31 ∧ OwnR w v xs ∧ v.ownBlock ≠ some b
def FootM (w : World) (b : Nat) : Nat → Prop := fun k => k = b ∨ ∃ v, w.cell? ⟨b, 0, none⟩ = some v ∧ v.ownBlock = some k
theorem IsM.mono {F : Nat → Prop} {w w' : World} {b : Nat} {xs : List Rw} (h : IsM w b xs) (hf : Fr F w w') (hF : ∀ k, FootM w b k → ¬ F k) : IsM w' b xs := by
  obtain ⟨v, hb, hr, hne⟩ := h
  exact ⟨v, hb.mono hf (hF b (.inl rfl)), hr.mono hf (fun k hk => hF k (.inr ⟨v, hb.cell 0, hk⟩)), hne⟩
theorem IsM.nix {w w' : World} {b : Nat} {xs : List Rw} (h : IsM w b xs) (hf : Fr Nix w w') : IsM w' b xs := h.mono hf (fun _ _ h => h)
theorem IsM.lt {w : World} {b : Nat} {xs : List Rw} (h : IsM w b xs) {k : Nat} (hk : FootM w b k) : k < w.heap.size := by
  obtain ⟨v, hb, ho, _⟩ := h
  rcases hk with rfl | ⟨v', h1, h2⟩
  · exact hb.lt
  · have : w.cell? ⟨b, 0, none⟩ = some v := hb.cell 0
    rw [this] at h1
    cases h1
    exact own_lt ho k h2
theorem FootM.same {F : Nat → Prop} {w w' : World} {b : Nat} {xs : List Rw} (h : IsM w b xs) (hf : Fr F w w') (hF : ¬ F b) {k : Nat} : FootM w' b k ↔ FootM w b k := by
  obtain ⟨v, hb, _⟩ := h
  have hc : w'.cell? ⟨b, 0, none⟩ = w.cell? ⟨b, 0, none⟩ := hf.cell (p := ⟨b, 0, none⟩) hb.lt hF
  unfold FootM
  rw [hc]
theorem IsM.cell {w : World} {b : Nat} {xs : List Rw} (h : IsM w b xs) : ∃ A c, w.cell? ⟨b, 0, none⟩ = some (.slice A xs.length c) ∧ RdR w (.slice A xs.length c) xs := by
  obtain ⟨v, hb, hr, _⟩ := h
  obtain ⟨A, c, e⟩ : ∃ A c, v = .slice A xs.length c := by obtain ⟨_, A, c, e, _⟩ := hr.rd; exact ⟨A, c, e⟩
  subst e
  exact ⟨A, c, hb.cell 0, hr.rd⟩

theorem val_at {key : ByteArray} : ∀ {xs : List Rw} (k : Nat) (h : k < xs.length), (∀ j (hj : j < xs.length), j < k → xs[j].k ≠ key) → xs[k].k = key → valR key xs = some xs[k].v
  | x :: r, 0, _, _, e => by simp at e; simp [valR, e]
  | x :: r, k + 1, h, hn, e => by
    have h0 := hn 0 (by simp) (by omega)
    simp at h0
    rw [valR, if_neg h0]
    have := val_at (xs := r) (key := key) k (by simpa using h) (fun j hj hjk => hn (j + 1) (by simpa using hj) (by omega)) (by simpa using e)
    simpa using this
theorem val_no {key : ByteArray} : ∀ {xs : List Rw}, (∀ j (hj : j < xs.length), xs[j].k ≠ key) → valR key xs = none
  | [], _ => rfl
  | x :: r, h => by
    have h0 := h 0 (by simp)
    simp at h0
    rw [valR, if_neg h0, val_no (fun j hj => by have := h (j + 1) (by simpa using hj); simpa using this)]
def vOr (o : Option ByteArray) : ByteArray := match o with | some v => v | none => ⟨#[]⟩
set_option maxHeartbeats 2000000 in
theorem getM_any (w : World) (b : Nat) (xs : List Rw) (key : ByteArray) (h : IsM w b xs) :
    Calls Tryz.prog 14 #[.pointer (some ⟨b, 0, none⟩), .string key] w fun e w' => e = .returned (.tuple #[.string (vOr (valR key xs)), .bool (valR key xs).isSome]) ∧ w = w' := by
  obtain ⟨A, c, hc, hr⟩ := h.cell
  have hm := hr.1
  have HR := Lib.hid hr
  clear h hr
  go_enter Tryz.func14, Tryz.ntmps14
  go_wp2_with fail
  go_loopg [6] xs.length (fun gg s6 wr => ∃ k : Nat, k ≤ xs.length ∧ xs.length - k ≤ gg ∧ s6 = .int .i64 k ∧ Hid (wr = w ∧ ∀ j (hj : j < xs.length), j < k → xs[j].k ≠ key))
  case atStart => exact ⟨0, Nat.zero_le _, by omega, rfl, rfl, fun j _ h => absurd h (Nat.not_lt_zero _)⟩
  case round =>
    obtain ⟨k, hk, hg, rfl, H⟩ := hrel
    have hw := H.out.1
    subst hw
    by_cases hlt : k < xs.length
    · have hlti : (k : Int) < (xs.length : Int) := by omega
      obtain ⟨_, A', c', e, hr⟩ := HR.out
      cases e
      rcases hr with h0 | ⟨b', off, rfl, hb, hcc⟩
      · rw [h0] at hlt; cases hlt
      have x0 := (hcc k hlt).1
      have x1 := (hcc k hlt).2
      have hq := toList_inj xs[k].k key
      by_cases he : xs[k].k = key
      · have HV : Hid (valR key xs = some xs[k].v) := val_at k hlt H.out.2 he
        rw [decide_eq_true he] at hq
        clear hcc he
        generalize xs[k] = x at x0 x1 hq HV
        go_wp2_with fail
        go_ret2
        rw [HV.out]
        exact ⟨rfl, rfl⟩
      · rw [decide_eq_false he] at hq
        have HE := Lib.hid he
        clear hcc x1
        have HN : Hid (∀ j (hj : j < xs.length), j < k + 1 → xs[j].k ≠ key) := fun j hj hjk => by
          by_cases e : j = k
          · subst e; exact HE.out
          · exact H.out.2 j hj (by omega)
        clear he HE
        generalize xs[k] = x at x0 hq
        go_wp2_with fail
        go_roundg (xs.length - (k + 1))
        case measure => omega
        case rel => exact ⟨k + 1, by omega, by omega, by go_num, rfl, HN.out⟩
    · obtain rfl : k = xs.length := by omega
      have HV : Hid (valR key xs = none) := val_no (fun j hj => H.out.2 j hj hj)
      go_wp2_with fail
      go_ret2
      rw [HV.out]
      exact ⟨rfl, rfl⟩

set_option maxRecDepth 100000 in
set_option maxHeartbeats 4000000 in
theorem inM_any (w : World) (b : Nat) (xs : List Rw) (lo hi : ByteArray) (h : IsM w b xs) (hB : xs.length ≤ 1000000) :
    Calls Tryz.prog 27 #[.pointer (some ⟨b, 0, none⟩), .agg #[.string lo, .string hi]] w fun e w' => ∃ v, e = .returned v ∧ OwnR w' v (xs.filter fun x => hasS lo hi x.k) ∧ New w v ∧ Fr Nix w w' := by
  obtain ⟨i0, hi0, hz0, hz1, hz2⟩ := info_parts infoRow
  have HM := Lib.hid h
  obtain ⟨A, c, hc, hr⟩ := h.cell
  have HR := Lib.hid hr
  have hbl := h.lt (.inl rfl)
  clear h hr
  go_enter Tryz.func27, Tryz.ntmps27
  go_wp2_with fail
  have F0 : Hid (Fr Nix w (w.alloc (.cells #[.string lo, .string hi] 36))) := (Fr.refl _ _).alloc _
  have B0 : Hid (Blk (w.alloc (.cells #[.string lo, .string hi] 36)) w.heap.size [.string lo, .string hi] 36) := Blk.new w [.string lo, .string hi] _
  have hsz0 : (w.alloc (.cells #[.string lo, .string hi] 36)).heap.size = w.heap.size + 1 := by simp
  generalize w.alloc (.cells #[.string lo, .string hi] 36) = W0 at *
  have L0 : Hid (∃ acc, OwnR W0 (.slice none 0 0) acc ∧ New W0 (.slice none 0 0) ∧ Fr Nix W0 W0 ∧ acc = (xs.take 0).filter fun x => hasS lo hi x.k) := ⟨[], World.ownsRow_nil _ _ _ _, (fun k hk => by cases hk), Fr.refl _ _, by simp⟩
  go_loopg [5, 6] xs.length (fun gg s5 s6 wr => ∃ (k : Nat) (A : Option Addr) (L c : Nat), k ≤ xs.length ∧ xs.length - k ≤ gg ∧ s6 = .int .i64 k ∧ s5 = .slice A L c ∧ Hid (∃ acc, OwnR wr (.slice A L c) acc ∧ New W0 (.slice A L c) ∧ Fr Nix W0 wr ∧ acc = (xs.take k).filter fun x => hasS lo hi x.k))
  case atStart => exact ⟨0, none, 0, 0, Nat.zero_le _, by omega, rfl, rfl, L0.out⟩
  case round =>
    clear L0
    obtain ⟨k, A5, L5, c5, hk, hg, rfl, rfl, H⟩ := hrel
    obtain ⟨acc, p1, p2, p3, p4⟩ := H.out
    have P1 := Lib.hid p1
    have P2 := Lib.hid p2
    have P3 := Lib.hid p3
    have P4 := Lib.hid p4
    clear p1 p2 p3 p4 H
    have m0 : wr.cell? ⟨b, 0, none⟩ = some (.slice A xs.length c) := P3.out.cell' (F0.out.cell' hc)
    have b0 : wr.cell? ⟨w.heap.size, 0, none⟩ = some (.string lo) := P3.out.cell' (B0.out.cell 0)
    have b1 : wr.cell? ⟨w.heap.size, 1, none⟩ = some (.string hi) := P3.out.cell' (B0.out.cell 1)
    by_cases hlt : k < xs.length
    · have hlti : (k : Int) < (xs.length : Int) := by omega
      obtain ⟨_, A', c', e, hr⟩ := (HR.out.nix F0.out).nix P3.out
      cases e
      rcases hr with h0 | ⟨b', off, rfl, hb, hcc⟩
      · rw [h0] at hlt; cases hlt
      have x0 := (hcc k hlt).1
      have x1 := (hcc k hlt).2
      have HT : Hid ((xs.take (k + 1)).filter (fun x => hasS lo hi x.k) = acc ++ (if hasS lo hi xs[k].k then [xs[k]] else [])) := by
        show _ = _
        rw [List.take_succ_eq_append_getElem hlt, List.filter_append, ← P4.out]
        congr 1
        cases h : hasS lo hi xs[k].k <;> simp [h]
      have hal : acc.length ≤ k := by rw [P4.out]; exact Nat.le_trans (List.length_filter_le _ _) (by simp; omega)
      clear hcc
      generalize xs[k] = x at x0 x1 HT
      have m0' := Gt.cell m0
      have b0' := Gt.cell b0
      have b1' := Gt.cell b1
      have x0' := Gt.cell x0
      have HH : ∀ n : Gt wr, Hid (Calls Tryz.prog 51 #[.agg #[.string lo, .string hi], .string x.k] n.w fun e w' => e = .returned (.bool (hasS lo hi x.k)) ∧ Fr Nix n.w w') := fun n => refHas_any lo hi x.k n.w
      cases hh : hasS lo hi x.k with
      | false =>
        rw [hh] at HT HH
        clear hh
        go_wp2_with fail
        refine wp_region_gt (by kernel_rfl) (by kernel_rfl) ?_
        repeat (go_big_quiet_step ((go_at_call 51; exact (HH _).out.gt)))
        refine wpQuiet_nil ?_
        rintro w2 ⟨⟨_, h2⟩, rfl⟩
        have N : Hid (∃ acc, OwnR w2 (.slice A5 L5 c5) acc ∧ New W0 (.slice A5 L5 c5) ∧ Fr Nix W0 w2 ∧ acc = (xs.take (k + 1)).filter fun x => hasS lo hi x.k) := ⟨acc, P1.out.mono h2 (fun _ _ h => h), P2.out, P3.out.nix h2, by rw [HT.out]; simp⟩
        clear h2
        go_wp2_with fail
        go_roundg (xs.length - (k + 1))
        case measure => omega
        case rel => exact ⟨k + 1, A5, L5, c5, by omega, by omega, by go_num, rfl, N.out⟩
      | true =>
        rw [hh] at HT HH
        clear hh
        go_wp2_with fail
        refine wp_region_gt (by kernel_rfl) (by kernel_rfl) ?_
        repeat (go_big_quiet_step ((go_at_call 51; exact (HH _).out.gt)))
        refine wpQuiet_nil ?_
        rintro w2 ⟨⟨_, h2⟩, rfl⟩
        have m2 : w2.cell? ⟨b, 0, none⟩ = some (.slice (some ⟨b', off, none⟩) xs.length c) := h2.cell' m0
        have y0 : w2.cell? ⟨b', off + k * 2, none⟩ = some (.string x.k) := h2.cell' x0
        have y1 : w2.cell? ⟨b', off + k * 2 + 1, none⟩ = some (.string x.v) := h2.cell' x1
        have Q1 : Hid (OwnR w2 (.slice A5 L5 c5) acc) := P1.out.mono h2 (fun _ _ h => h)
        have Q3 : Hid (Fr Nix W0 w2) := P3.out.nix h2
        clear h2 m0' b0' b1' x0' m0 b0 b1 x0 x1 HH
        go_wp2_with (at_builtin; refine wp_append rfl _ _ 29 rfl 48 i0 _ 2 32 Tryz.underlying29 hi0 hz0 hz1 hz2 rfl (by decide) _ acc.length (cellsR acc) rfl ?c1 _ rfl 1 (cellsR [x]) ?c2 ?c3 ?c4 ?c5)
        case c1 => exact Q1.out.mono ((Fr.refl Nix _).alloc _) (fun _ _ h => h)
        case c2 => exact (rd_one w2 x).src
        case c3 => simp only [maxLen]; omega
        case c4 => omega
        case c5 =>
          intro v' w' ho' hf hat
          have N : Hid (∃ A L c, v' = .slice A L c ∧ ∃ acc, OwnR w' v' acc ∧ New W0 v' ∧ Fr Nix W0 w' ∧ acc = (xs.take (k + 1)).filter fun x => hasS lo hi x.k) := by
            have ho2 : OwnR w' v' (acc ++ [x]) := by
              show w'.ownsRow _ _ _ _ _ _
              rw [List.length_append, cellsR_append]
              exact ho'
            obtain ⟨A, L, c, e⟩ := ho2.form
            refine ⟨A, L, c, e, _, ho2, fun i hi' => ?_, (Q3.out.alloc _).then hf (fun i hi' e => by have := P2.out i e; omega), by rw [HT.out]; simp⟩
            rcases hat with e | e
            · rw [e] at hi'; exact P2.out i hi'
            · rw [e] at hi'
              cases hi'
              have := Q3.out.size
              simp
              omega
          clear ho' hf hat
          obtain ⟨A10, L10, c10, rfl, N⟩ := N.out
          have N := Lib.hid N
          go_wp2_with fail
          go_roundg (xs.length - (k + 1))
          case measure => omega
          case rel => exact ⟨k + 1, A10, L10, c10, by omega, by omega, by go_num, rfl, N.out⟩
    · obtain rfl : k = xs.length := by omega
      have HF : Hid (acc = xs.filter fun x => hasS lo hi x.k) := by
        show _ = _
        rw [P4.out, List.take_length]
      go_wp2_with fail
      go_ret
      rw [← HF.out]
      exact ⟨_, rfl, P1.out, fun i hi' => by have := P2.out i hi'; omega, F0.out.nix P3.out⟩

set_option maxRecDepth 100000 in
set_option maxHeartbeats 4000000 in
theorem takeM_any (w : World) (b : Nat) (xs : List Rw) (lo hi : ByteArray) (h : IsM w b xs) (hB : xs.length ≤ 1000000) :
    Calls Tryz.prog 28 #[.pointer (some ⟨b, 0, none⟩), .agg #[.string lo, .string hi]] w fun e w' => ∃ v, e = .returned v ∧ OwnR w' v (xs.filter fun x => hasS lo hi x.k) ∧ New w v ∧
      IsM w' b (xs.filter fun x => !hasS lo hi x.k) ∧ Fr (fun k => k = b) w w' ∧ (∀ k, FootM w' b k → k = b ∨ w.heap.size ≤ k) ∧ (∀ k, v.ownBlock = some k → ¬ FootM w' b k) := by
  obtain ⟨i0, hi0, hz0, hz1, hz2⟩ := info_parts infoRow
  have hbl := h.lt (.inl rfl)
  have HM := Lib.hid h
  have F0 : Hid (Fr Nix w (w.alloc (.cells #[.string lo, .string hi] 36))) := (Fr.refl _ _).alloc _
  have B0 : Hid (Blk (w.alloc (.cells #[.string lo, .string hi] 36)) w.heap.size [.string lo, .string hi] 36) := Blk.new w [.string lo, .string hi] _
  have HI := Lib.hid (inM_any (w.alloc (.cells #[.string lo, .string hi] 36)) b xs lo hi (h.nix F0.out) hB)
  clear h
  go_enter Tryz.func28, Tryz.ntmps28
  go_wp2_with fail
  refine HI.out.mono ?_
  rintro e w1 ⟨v1, rfl, q1, q2, q3⟩
  have O1 := Lib.hid q1
  have N1 : Hid (New w v1) := fun k hk => by have := q2 k hk; rw [World.size_alloc] at this; omega
  have F1 : Hid (Fr Nix w w1) := F0.out.nix q3
  have B1 : Hid (Blk w1 w.heap.size [.string lo, .string hi] 36) := B0.out.mono q3 (fun h => h)
  clear q1 q2 q3 HI F0 B0
  obtain ⟨A1, L1, c1, e1⟩ := O1.out.form
  subst e1
  obtain ⟨A, c, hc, hr⟩ := (HM.out.nix F1.out).cell
  have HR := Lib.hid hr
  clear hr
  have L0 : Hid (∃ acc, OwnR w1 (.slice none 0 0) acc ∧ New w1 (.slice none 0 0) ∧ Fr Nix w1 w1 ∧ acc = (xs.take 0).filter fun x => !hasS lo hi x.k) := ⟨[], World.ownsRow_nil _ _ _ _, (fun k hk => by cases hk), Fr.refl _ _, by simp⟩
  go_wp2_with fail
  go_loopg [6, 7] xs.length (fun gg s5 s6 wr => ∃ (k : Nat) (A : Option Addr) (L c : Nat), k ≤ xs.length ∧ xs.length - k ≤ gg ∧ s6 = .int .i64 k ∧ s5 = .slice A L c ∧ Hid (∃ acc, OwnR wr (.slice A L c) acc ∧ New w1 (.slice A L c) ∧ Fr Nix w1 wr ∧ acc = (xs.take k).filter fun x => !hasS lo hi x.k))
  case atStart => exact ⟨0, none, 0, 0, Nat.zero_le _, by omega, rfl, rfl, L0.out⟩
  case round =>
    clear L0
    obtain ⟨k, A5, L5, c5, hk, hg, rfl, rfl, H⟩ := hrel
    obtain ⟨acc, p1, p2, p3, p4⟩ := H.out
    have P1 := Lib.hid p1
    have P2 := Lib.hid p2
    have P3 := Lib.hid p3
    have P4 := Lib.hid p4
    clear p1 p2 p3 p4 H
    have m0 : wr.cell? ⟨b, 0, none⟩ = some (.slice A xs.length c) := P3.out.cell' hc
    have b0 : wr.cell? ⟨w.heap.size, 0, none⟩ = some (.string lo) := P3.out.cell' (B1.out.cell 0)
    have b1 : wr.cell? ⟨w.heap.size, 1, none⟩ = some (.string hi) := P3.out.cell' (B1.out.cell 1)
    by_cases hlt : k < xs.length
    · have hlti : (k : Int) < (xs.length : Int) := by omega
      obtain ⟨_, A', c', e, hr⟩ := HR.out.nix P3.out
      cases e
      rcases hr with h0 | ⟨b', off, rfl, hb, hcc⟩
      · rw [h0] at hlt; cases hlt
      have x0 := (hcc k hlt).1
      have x1 := (hcc k hlt).2
      have HT : Hid ((xs.take (k + 1)).filter (fun x => !hasS lo hi x.k) = acc ++ (if hasS lo hi xs[k].k then [] else [xs[k]])) := by
        show _ = _
        rw [List.take_succ_eq_append_getElem hlt, List.filter_append, ← P4.out]
        congr 1
        cases h : hasS lo hi xs[k].k <;> simp [h]
      have hal : acc.length ≤ k := by rw [P4.out]; exact Nat.le_trans (List.length_filter_le _ _) (by simp; omega)
      clear hcc
      generalize xs[k] = x at x0 x1 HT
      have m0' := Gt.cell m0
      have b0' := Gt.cell b0
      have b1' := Gt.cell b1
      have x0' := Gt.cell x0
      have HH : ∀ n : Gt wr, Hid (Calls Tryz.prog 51 #[.agg #[.string lo, .string hi], .string x.k] n.w fun e w' => e = .returned (.bool (hasS lo hi x.k)) ∧ Fr Nix n.w w') := fun n => refHas_any lo hi x.k n.w
      cases hh : hasS lo hi x.k with
      | true =>
        rw [hh] at HT HH
        clear hh
        go_wp2_with fail
        refine wp_region_gt (by kernel_rfl) (by kernel_rfl) ?_
        repeat (go_big_quiet_step ((go_at_call 51; exact (HH _).out.gt)))
        refine wpQuiet_nil ?_
        rintro w2 ⟨⟨_, h2⟩, rfl⟩
        have N : Hid (∃ acc, OwnR w2 (.slice A5 L5 c5) acc ∧ New w1 (.slice A5 L5 c5) ∧ Fr Nix w1 w2 ∧ acc = (xs.take (k + 1)).filter fun x => !hasS lo hi x.k) := ⟨acc, P1.out.mono h2 (fun _ _ h => h), P2.out, P3.out.nix h2, by rw [HT.out]; simp⟩
        clear h2
        go_wp2_with fail
        go_roundg (xs.length - (k + 1))
        case measure => omega
        case rel => exact ⟨k + 1, A5, L5, c5, by omega, by omega, by go_num, rfl, N.out⟩
      | false =>
        rw [hh] at HT HH
        clear hh
        go_wp2_with fail
        refine wp_region_gt (by kernel_rfl) (by kernel_rfl) ?_
        repeat (go_big_quiet_step ((go_at_call 51; exact (HH _).out.gt)))
        refine wpQuiet_nil ?_
        rintro w2 ⟨⟨_, h2⟩, rfl⟩
        have m2 : w2.cell? ⟨b, 0, none⟩ = some (.slice (some ⟨b', off, none⟩) xs.length c) := h2.cell' m0
        have y0 : w2.cell? ⟨b', off + k * 2, none⟩ = some (.string x.k) := h2.cell' x0
        have y1 : w2.cell? ⟨b', off + k * 2 + 1, none⟩ = some (.string x.v) := h2.cell' x1
        have Q1 : Hid (OwnR w2 (.slice A5 L5 c5) acc) := P1.out.mono h2 (fun _ _ h => h)
        have Q3 : Hid (Fr Nix w1 w2) := P3.out.nix h2
        clear h2 m0' b0' b1' x0' m0 b0 b1 x0 x1 HH
        go_wp2_with (at_builtin; refine wp_append rfl _ _ 29 rfl 48 i0 _ 2 32 Tryz.underlying29 hi0 hz0 hz1 hz2 rfl (by decide) _ acc.length (cellsR acc) rfl ?c1 _ rfl 1 (cellsR [x]) ?c2 ?c3 ?c4 ?c5)
        case c1 => exact Q1.out.mono ((Fr.refl Nix _).alloc _) (fun _ _ h => h)
        case c2 => exact (rd_one w2 x).src
        case c3 => simp only [maxLen]; omega
        case c4 => omega
        case c5 =>
          intro v' w' ho' hf hat
          have N : Hid (∃ A L c, v' = .slice A L c ∧ ∃ acc, OwnR w' v' acc ∧ New w1 v' ∧ Fr Nix w1 w' ∧ acc = (xs.take (k + 1)).filter fun x => !hasS lo hi x.k) := by
            have ho2 : OwnR w' v' (acc ++ [x]) := by
              show w'.ownsRow _ _ _ _ _ _
              rw [List.length_append, cellsR_append]
              exact ho'
            obtain ⟨A, L, c, e⟩ := ho2.form
            refine ⟨A, L, c, e, _, ho2, fun i hi' => ?_, (Q3.out.alloc _).then hf (fun i hi' e => by have := P2.out i e; omega), by rw [HT.out]; simp⟩
            rcases hat with e | e
            · rw [e] at hi'; exact P2.out i hi'
            · rw [e] at hi'
              cases hi'
              have := Q3.out.size
              simp
              omega
          clear ho' hf hat
          obtain ⟨A10, L10, c10, rfl, N⟩ := N.out
          have N := Lib.hid N
          go_wp2_with fail
          go_roundg (xs.length - (k + 1))
          case measure => omega
          case rel => exact ⟨k + 1, A10, L10, c10, by omega, by omega, by go_num, rfl, N.out⟩
    · obtain rfl : k = xs.length := by omega
      have HF : Hid (acc = xs.filter fun x => !hasS lo hi x.k) := by
        show _ = _
        rw [P4.out, List.take_length]
      have FF : Hid (Fr Nix w wr) := F1.out.nix P3.out
      have BM : Hid (Blk wr b [.slice A xs.length c] 31) := by
        obtain ⟨v, hb, _⟩ := HM.out.nix FF.out
        have h1 : wr.cell? ⟨b, 0, none⟩ = some v := hb.cell 0
        rw [m0] at h1
        cases h1
        exact hb
      have f0 : wr.frozen? ⟨b, 0, none⟩ = false := BM.out.frozen 0
      have hs1 := F1.out.size
      go_wp2_with fail
      go_ret
      have hne : ∀ i, (Value.slice A5 L5 c5).ownBlock = some i → w.heap.size ≤ i := fun i hi' => by have := P2.out i hi'; omega
      have hcell : (wr.setCell ⟨b, 0, none⟩ (.slice A5 L5 c5)).cell? ⟨b, 0, none⟩ = some (.slice A5 L5 c5) := (BM.out.set 0 (.slice A5 L5 c5)).cell 0
      have FS : Fr (fun k => k = b) wr (wr.setCell ⟨b, 0, none⟩ (.slice A5 L5 c5)) := (Fr.refl (fun k => k = b) wr).setCell (p := ⟨b, 0, none⟩) (.inr rfl) _
      have hfoot : ∀ i, FootM (wr.setCell ⟨b, 0, none⟩ (.slice A5 L5 c5)) b i → i = b ∨ (Value.slice A5 L5 c5).ownBlock = some i := by
        rintro i (h | ⟨v, h1, h2⟩)
        · exact .inl h
        · rw [hcell] at h1
          cases h1
          exact .inr h2
      refine ⟨_, rfl, (O1.out.mono P3.out (fun _ _ h => h)).mono FS (fun i hi' e => by have := N1.out i hi'; omega), N1.out, ⟨_, BM.out.set 0 _, ?_, fun e => by have := hne _ e; omega⟩, FF.out.any.trans FS, ?_, ?_⟩
      · rw [← HF.out]
        exact P1.out.mono FS (fun i hi' e => by have := hne i hi'; omega)
      · intro i hi'
        rcases hfoot i hi' with h | h
        · exact .inl h
        · exact .inr (hne i h)
      · intro i hi' hf'
        rcases hfoot i hf' with h | h
        · have := N1.out i hi'; omega
        · have h1 := P2.out i h
          have := own_lt O1.out i hi'
          omega
end Go.Proofs.YtnilbpofmohfhaaGreat
