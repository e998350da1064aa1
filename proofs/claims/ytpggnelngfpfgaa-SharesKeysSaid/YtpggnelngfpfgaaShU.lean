/- Walks of package shares: Turn. -/
import Derived.Test.YtpggnelngfpfgaaShR
namespace Go.Proofs.Ytpggnelngfpfgaa
open Go.RowKit

theorem idxC_find {α : Type} (p : α → Bool) (xs : List α) : (idxC p xs 0 = -1 ∧ xs.findIdx? p = none) ∨ ∃ k, ∃ _ : k < xs.length, idxC p xs 0 = (k : Int) ∧ xs.findIdx? p = some k := by
  cases hf : xs.findIdx? p with
  | none =>
    have hf' := hf
    rw [List.findIdx?_eq_none_iff] at hf
    exact .inl ⟨idxC_none p xs 0 fun j h => by simpa using hf _ (List.getElem_mem h), rfl⟩
  | some k =>
    obtain ⟨hk, h1, h2⟩ := List.findIdx?_eq_some_iff_getElem.1 hf
    refine .inr ⟨k, hk, ?_, rfl⟩
    have := idxC_at p xs k 0 hk (fun j h => by simpa using h2 j h) h1
    simpa using this
/-- The values that Turn tells. -/
def TurnTells (w : World) (r : Shs × Int) (e : Ending) (w' : World) : Prop :=
  ∃ v', e = .returned (.tuple #[.agg #[.int .i64 r.1.ep, v'], .int .i64 r.2]) ∧ OwnSh w' v' r.1.l ∧ New w v' ∧ Fr Nix w w'
theorem tells_zero {w w' : World} {r : Shs × Int} {n : Int} (h : r = (Shs.zero, n)) (hf : Fr Nix w w') : TurnTells w r (.returned (.tuple #[.agg #[.int .i64 0, .slice none 0 0], .int .i64 n])) w' := by
  subst h
  exact ⟨_, rfl, World.ownsRow_nil _ _ _ _, (fun k hk => by cases hk), hf⟩
theorem turn_r {s : Shs} {p q : ByteArray} {g : Int} (h : rightS s = false) : turnB s p q g = (Shs.zero, 2) := by unfold turnB; rw [h]; rfl
theorem turn_p {s : Shs} {p q : ByteArray} {g : Int} (h : rightB p q = false) : turnB s p q g = (Shs.zero, 2) := by unfold turnB; rw [h]; simp
theorem turn_g {s : Shs} {p q : ByteArray} {g : Int} (h : inB g 1 4 = false) : turnB s p q g = (Shs.zero, 2) := by unfold turnB; rw [h]; simp
theorem turn_n {s : Shs} {p q : ByteArray} {g : Int} (h1 : rightS s = true) (h2 : rightB p q = true) (h3 : inB g 1 4 = true) (h : s.l.findIdx? (fun x => withB p q x.lo x.hi) = none) : turnB s p q g = (Shs.zero, 6) := by unfold turnB; rw [h1, h2, h3, h]; rfl
theorem turn_k {s : Shs} {p q : ByteArray} {g : Int} (h1 : rightS s = true) (h2 : rightB p q = true) (h3 : inB g 1 4 = true) {k : Nat} (hk : k < s.l.length) (h : s.l.findIdx? (fun x => withB p q x.lo x.hi) = some k) :
    turnB s p q g = if s.l[k].g = g then (Shs.zero, 7)
        else if s.ep = 1073741824 ∨ 40 < (s.l.take k ++ (partedL s.l[k] p q g (s.ep + 1) ++ s.l.drop (k + 1))).length then (Shs.zero, 8)
        else (⟨s.ep + 1, s.l.take k ++ (partedL s.l[k] p q g (s.ep + 1) ++ s.l.drop (k + 1))⟩, 0) := by
  unfold turnB
  rw [h1, h2, h3, h]
  simp only [Bool.and_self, if_true]
  rw [List.getElem?_eq_getElem hk]
set_option maxRecDepth 100000 in
set_option maxHeartbeats 8000000 in
/-- Turn gives a span to a group. -/
theorem turn_any (w : World) (ep : Int) (v : Value) (xs : List Shr) (p q : ByteArray) (g : Int) (hv : RdSh w v xs) (hl : xs.length ≤ 1000000000) :
    Calls Try.prog 11 #[.agg #[.int .i64 ep, v], .agg #[.string p, .string q], .int .i64 g] w (TurnTells w (turnB ⟨ep, xs⟩ p q g)) := by
  obtain ⟨n, hn⟩ : ∃ n, n = xs.length := ⟨_, rfl⟩
  obtain ⟨A, c, hvf⟩ : ∃ A c, v = .slice A n c := by obtain ⟨A, c, e⟩ := hv.form; exact ⟨A, c, by rw [hn]; exact e⟩
  subst hvf
  have HV := Lib.hid hv
  have HN := Lib.hid hn
  have HR := fun W (h : Fr Nix w W) => Lib.hid (rightSh_any W ep (.slice A n c) xs (hv.nix h) hl)
  clear hv hn
  obtain ⟨B, hB⟩ : ∃ B, B = turnB ⟨ep, xs⟩ p q g := ⟨_, rfl⟩
  rw [← hB]
  have HB := Lib.hid hB
  clear hB
  have HAT := fun W (hw : Fr Nix w W) (hc0 : W.cell? ⟨w.heap.size + 1, 0, none⟩ = some (.string p)) (hc1 : W.cell? ⟨w.heap.size + 1, 1, none⟩ = some (.string q)) => Lib.hid (at_any W ep (.slice A n c) xs 32 #[.pointer (some ⟨w.heap.size + 1, 0, none⟩)] (fun s => withB p q s.k s.v) (HV.out.nix hw) hl (fun W' s h => turn1_any s _ p q W' (h.cell' hc0) (h.cell' hc1)) egTurn)
  have HJ : Hid ((rightS ⟨ep, xs⟩ = true → (atS (fun s => withB p q s.k s.v) ⟨ep, xs⟩ = -1 ∧ xs.findIdx? (fun x => withB p q x.lo x.hi) = none) ∨ ∃ k, ∃ _ : k < xs.length, atS (fun s => withB p q s.k s.v) ⟨ep, xs⟩ = (k : Int) ∧ xs.findIdx? (fun x => withB p q x.lo x.hi) = some k)) := fun hr => by
    have := idxC_find (fun x : Shr => withB p q x.lo x.hi) xs
    unfold atS
    rw [if_pos hr]
    exact this
  generalize atS (fun s => withB p q s.k s.v) ⟨ep, xs⟩ = J at HAT HJ
  go_enter Try.func11, Try.ntmps11
  go_wp2_with fail
  refine (HAT _ (by repeat (first | exact Fr.refl _ _ | refine Fr.alloc ?_ _)) (by go_simp) (by go_simp)).out.mono ?_
  rintro e w1 ⟨rfl, h1⟩
  have B2 : Hid (Blk w1 (w.heap.size + 1 + 1) [.int .i64 0, .slice none 0 0] 26) := by
    have h := Blk.new ((w.alloc (.cells #[.int .i64 ep, .slice A n c] 26)).alloc (.cells #[.string p, .string q] 29)) [.int .i64 0, .slice none 0 0] 26
    simp only [World.size_alloc] at h
    exact (h.alloc _).mono h1 (fun h => h)
  have p0 : w1.cell? ⟨w.heap.size + 1, 0, none⟩ = some (.string p) := h1.cell' (by go_simp)
  have p1 : w1.cell? ⟨w.heap.size + 1, 1, none⟩ = some (.string q) := h1.cell' (by go_simp)
  have p2 : w1.cell? ⟨w.heap.size + 1 + 1 + 1, 0, none⟩ = some (.int .i64 ep) := h1.cell' (by go_simp)
  have p3 : w1.cell? ⟨w.heap.size + 1 + 1 + 1, 1, none⟩ = some (.slice A n c) := h1.cell' (by go_simp)
  have F1 : Hid (Fr Nix w w1) := ((((Fr.refl _ _).alloc _).alloc _).alloc _).alloc _ |>.nix h1
  clear h1 HAT
  obtain ⟨H1, hH1⟩ : ∃ H1, H1 = w.heap.size + 1 := ⟨_, rfl⟩
  obtain ⟨H2, hH2⟩ : ∃ H2, H2 = w.heap.size + 1 + 1 := ⟨_, rfl⟩
  obtain ⟨H3, hH3⟩ : ∃ H3, H3 = w.heap.size + 1 + 1 + 1 := ⟨_, rfl⟩
  rw [← hH3] at p2 p3 ⊢
  rw [← hH2] at B2 ⊢
  rw [← hH1] at p0 p1 ⊢
  have hw2 : w.heap.size ≤ H2 := by omega
  clear hH1 hH2 hH3
  go_wp2_with fail
  refine (HR w1 F1.out).out.mono ?_
  rintro e w2 ⟨rfl, h2⟩
  have r0 : w2.cell? ⟨H1, 0, none⟩ = some (.string p) := h2.cell' p0
  have r1 : w2.cell? ⟨H1, 1, none⟩ = some (.string q) := h2.cell' p1
  have r2 : w2.cell? ⟨H3, 0, none⟩ = some (.int .i64 ep) := h2.cell' p2
  have r3 : w2.cell? ⟨H3, 1, none⟩ = some (.slice A n c) := h2.cell' p3
  have F2 : Hid (Fr Nix w w2) := F1.out.nix h2
  have B3 : Hid (Blk w2 H2 [.int .i64 0, .slice none 0 0] 26) := B2.out.mono h2 (fun h => h)
  have b0 : w2.cell? ⟨H2, 0, none⟩ = some (.int .i64 0) := B3.out.cell 0
  have b1 : w2.cell? ⟨H2, 1, none⟩ = some (.slice none 0 0) := B3.out.cell 1
  have b2 : w2.frozen? ⟨H2, 0, none⟩ = false := B3.out.frozen 0
  have b3 : w2.frozen? ⟨H2, 1, none⟩ = false := B3.out.frozen 1
  clear h2 p0 p1 p2 p3 F1 B2
  cases hr : rightS ⟨ep, xs⟩ with
  | false =>
    have HF : Hid (B = (Shs.zero, 2)) := HB.out.trans (turn_r hr)
    clear hr
    go_wp2_with fail
    refine bodyPost_ret (v := .tuple #[.agg #[.int .i64 0, .slice none 0 0], .int .i64 2]) (by simp [results, Try.results11, go_sem, *]; try rfl) rfl (tells_zero HF.out ?_)
    exact (F2.out.setCell (p := ⟨H2, 0, none⟩) (.inl hw2) _).setCell (p := ⟨H2, 1, none⟩) (.inl hw2) _
  | true =>
    have hrr := (rightS_iff _).1 hr
    have hep1 : 1 ≤ ep := hrr.1.1
    have hep2 : ep ≤ 1073741824 := hrr.1.2
    have hn40 : n ≤ 40 := by rw [HN.out]; exact hrr.2.1
    have HPR : Hid (∀ x ∈ xs, rightB x.lo x.hi = true) := fun x hx => parts_right _ _ hrr.2.2.2 x.sp (List.mem_map_of_mem hx)
    have HRR := Lib.hid hr
    clear hr hrr
    go_wp2_with fail
    refine (right_any p q _).mono ?_
    rintro e w3 ⟨rfl, h3⟩
    have s0 : w3.cell? ⟨H3, 0, none⟩ = some (.int .i64 ep) := h3.cell' r2
    have s1 : w3.cell? ⟨H3, 1, none⟩ = some (.slice A n c) := h3.cell' r3
    have s2 : w3.cell? ⟨H1, 0, none⟩ = some (.string p) := h3.cell' r0
    have s3 : w3.cell? ⟨H1, 1, none⟩ = some (.string q) := h3.cell' r1
    have F3 : Hid (Fr Nix w w3) := F2.out.nix h3
    have B4 : Hid (Blk w3 H2 [.int .i64 0, .slice none 0 0] 26) := B3.out.mono h3 (fun h => h)
    have d0 : w3.cell? ⟨H2, 0, none⟩ = some (.int .i64 0) := B4.out.cell 0
    have d1 : w3.cell? ⟨H2, 1, none⟩ = some (.slice none 0 0) := B4.out.cell 1
    have d2 : w3.frozen? ⟨H2, 0, none⟩ = false := B4.out.frozen 0
    have d3 : w3.frozen? ⟨H2, 1, none⟩ = false := B4.out.frozen 1
    clear h3 r0 r1 r2 r3 F2 B3 b0 b1 b2 b3
    cases hpq : rightB p q with
    | false =>
      have HF : Hid (B = (Shs.zero, 2)) := HB.out.trans (turn_p hpq)
      clear hpq
      go_wp2_with fail
      refine bodyPost_ret (v := .tuple #[.agg #[.int .i64 0, .slice none 0 0], .int .i64 2]) (by simp [results, Try.results11, go_sem, *]; try rfl) rfl (tells_zero HF.out ?_)
      exact (F3.out.setCell (p := ⟨H2, 0, none⟩) (.inl hw2) _).setCell (p := ⟨H2, 1, none⟩) (.inl hw2) _
    | true =>
      have HPQ := Lib.hid hpq
      clear hpq
      cases hg : inB g 1 4 with
      | false =>
        have HF : Hid (B = (Shs.zero, 2)) := HB.out.trans (turn_g hg)
        have HG := Lib.hid hg
        clear hg
        go_wp2_with (go_at_call 29; refine (withinI_any _ _ _ _).mono ?_; rintro e w' ⟨rfl, rfl⟩; rw [HG.out])
        refine bodyPost_ret (v := .tuple #[.agg #[.int .i64 0, .slice none 0 0], .int .i64 2]) (by simp [results, Try.results11, go_sem, *]; try rfl) rfl (tells_zero HF.out ?_)
        exact (F3.out.setCell (p := ⟨H2, 0, none⟩) (.inl hw2) _).setCell (p := ⟨H2, 1, none⟩) (.inl hw2) _
      | true =>
        have HG := Lib.hid hg
        clear hg
        rcases HJ.out HRR.out with ⟨rfl, hf⟩ | ⟨k, hk, rfl, hf⟩
        · have HF : Hid (B = (Shs.zero, 6)) := HB.out.trans (turn_n HRR.out HPQ.out HG.out hf)
          clear hf HJ
          go_wp2_with (go_at_call 29; refine (withinI_any _ _ _ _).mono ?_; rintro e w' ⟨rfl, rfl⟩; rw [HG.out])
          refine bodyPost_ret (v := .tuple #[.agg #[.int .i64 0, .slice none 0 0], .int .i64 6]) (by simp [results, Try.results11, go_sem, *]; try rfl) rfl (tells_zero HF.out ?_)
          exact (F3.out.setCell (p := ⟨H2, 0, none⟩) (.inl hw2) _).setCell (p := ⟨H2, 1, none⟩) (.inl hw2) _
        · have HK := Lib.hid (HB.out.trans (turn_k (s := ⟨ep, xs⟩) HRR.out HPQ.out HG.out hk hf))
          have hkn : k < n := by rw [HN.out]; exact hk
          have hkni : (k : Int) < (n : Int) := by omega
          have hk0 : ¬ (k : Int) < 0 := by omega
          obtain ⟨_, A', c', e, hrd⟩ := HV.out.nix F3.out
          rw [← HN.out] at e
          simp only [Value.slice.injEq] at e
          obtain ⟨rfl, e2, rfl⟩ := e
          clear e2
          rcases hrd with h0 | ⟨b, off, rfl, hb, hc⟩
          · rw [h0] at hk; cases hk
          obtain ⟨s4, s5, s6, s7⟩ := sh_cells hc (Fr.refl _ _) k hk
          have hxr := HPR.out _ (List.getElem_mem hk)
          dsimp only at HK
          have HX : Hid (∃ x, x = xs[k]) := ⟨_, rfl⟩
          obtain ⟨x, hx⟩ := HX.out
          rw [← hx] at s4 s5 s6 s7 hxr HK
          clear hc hf HJ hx HX
          obtain ⟨lo, hi, xg, xe⟩ := x
          dsimp only at s4 s5 s6 s7 hxr HK
          have hbl := hb
          by_cases hgr : xg = g
          · have HF : Hid (B = (Shs.zero, 7)) := HK.out.trans (if_pos hgr)
            go_wp2_with (go_at_call 29; refine (withinI_any _ _ _ _).mono ?_; rintro e w' ⟨rfl, rfl⟩; rw [HG.out])
            refine bodyPost_ret (v := .tuple #[.agg #[.int .i64 0, .slice none 0 0], .int .i64 7]) (by simp [results, Try.results11, go_sem, *]; try rfl) rfl (tells_zero HF.out ?_)
            exact (F3.out.setCell (p := ⟨H2, 0, none⟩) (.inl hw2) _).setCell (p := ⟨H2, 1, none⟩) (.inl hw2) _
          · have HK2 := Lib.hid (HK.out.trans (if_neg hgr))
            go_wp2_with (go_at_call 29; refine (withinI_any _ _ _ _).mono ?_; rintro e w' ⟨rfl, rfl⟩; rw [HG.out])
            have hpos := partedL_pos ⟨lo, hi, xg, xe⟩ p q g (ep + 1) hxr
            have hle := partedL_length ⟨lo, hi, xg, xe⟩ p q g (ep + 1)
            have HPT := fun W => Lib.hid (parted_any W ⟨lo, hi, xg, xe⟩ p q g (ep + 1))
            unfold Shr.val at HPT
            dsimp only at HPT
            obtain ⟨PL, hPL⟩ : ∃ PL, PL = partedL ⟨lo, hi, xg, xe⟩ p q g (ep + 1) := ⟨_, rfl⟩
            rw [← hPL] at hpos hle HPT HK2
            have hw1 : IntKind.i64.wrap (ep + 1) = ep + 1 := IntWalk.i64_in _ (by omega)
            have hw3 : IntKind.i64.wrap ((k : Int) + 1) = (k : Int) + 1 := IntWalk.i64_in _ (by omega)
            clear hPL hxr HK HPR
            have q0 : w3.drew.cell? ⟨H3, 0, none⟩ = some (.int .i64 ep) := s0
            have q1 : w3.drew.cell? ⟨H3, 1, none⟩ = some (.slice (some ⟨b, off, none⟩) n c) := s1
            have q2 : w3.drew.cell? ⟨H1, 0, none⟩ = some (.string p) := s2
            have q3 : w3.drew.cell? ⟨H1, 1, none⟩ = some (.string q) := s3
            have q4 : w3.drew.cell? ⟨b, off + k * 4, none⟩ = some (.string lo) := s4
            have q5 : w3.drew.cell? ⟨b, off + k * 4 + 1, none⟩ = some (.string hi) := s5
            have q6 : w3.drew.cell? ⟨b, off + k * 4 + 2, none⟩ = some (.int .i64 xg) := s6
            have q7 : w3.drew.cell? ⟨b, off + k * 4 + 3, none⟩ = some (.int .i64 xe) := s7
            have F3d : Hid (Fr Nix w w3.drew) := F3.out.drew
            have RV : Hid (RdSh w3.drew (.slice (some ⟨b, off, none⟩) n c) xs) := HV.out.nix F3d.out
            have hxl : xs.length ≤ 1000 := by rw [← HN.out]; omega
            have hkl : k < xs.length := hk
            go_region_held3 (fun X => X.cell? ⟨H3, 0, none⟩ = some (.int .i64 ep) ∧ X.cell? ⟨H3, 1, none⟩ = some (.slice (some ⟨b, off, none⟩) n c) ∧ X.cell? ⟨H1, 0, none⟩ = some (.string p) ∧ X.cell? ⟨H1, 1, none⟩ = some (.string q) ∧ X.cell? ⟨b, off + k * 4, none⟩ = some (.string lo) ∧ X.cell? ⟨b, off + k * 4 + 1, none⟩ = some (.string hi) ∧ X.cell? ⟨b, off + k * 4 + 2, none⟩ = some (.int .i64 xg) ∧ X.cell? ⟨b, off + k * 4 + 3, none⟩ = some (.int .i64 xe)) (first | go_keep | (refine ⟨?_, ?_, ?_, ?_, ?_, ?_, ?_, ?_⟩ <;> assumption))
              (first
                | (go_at_call 35; refine (replace_any w6 v5 v6 xs PL k (o5.nix f6) o6 (fun i hi => by intro h; have := n6 i h; have := own_lt o5 i hi; omega) hkl hpos (by omega) hxl).mono ?_; rintro e w7 ⟨v7, rfl, o7, f7, a7⟩; have F7 : Hid (Fr Nix w3.drew w7) := (f5.nix f6).then f7 (fun i hi e => by have := n5 i e; omega); have x0 : w7.cell? ⟨H3, 0, none⟩ = some (.int .i64 ep) := F7.out.cell' q0; have x1 : w7.cell? ⟨H3, 1, none⟩ = some (.slice (some ⟨b, off, none⟩) n c) := F7.out.cell' q1; have x2 : w7.cell? ⟨H1, 0, none⟩ = some (.string p) := F7.out.cell' q2; have x3 : w7.cell? ⟨H1, 1, none⟩ = some (.string q) := F7.out.cell' q3; have x4 : w7.cell? ⟨b, off + k * 4, none⟩ = some (.string lo) := F7.out.cell' q4; have x5 : w7.cell? ⟨b, off + k * 4 + 1, none⟩ = some (.string hi) := F7.out.cell' q5; have x6 : w7.cell? ⟨b, off + k * 4 + 2, none⟩ = some (.int .i64 xg) := F7.out.cell' q6; have x7 : w7.cell? ⟨b, off + k * 4 + 3, none⟩ = some (.int .i64 xe) := F7.out.cell' q7; have d4 : w7.cell? ⟨H2, 0, none⟩ = some (.int .i64 0) := F7.out.cell' d0; have d5 : w7.cell? ⟨H2, 1, none⟩ = some (.slice none 0 0) := F7.out.cell' d1; have d6 : w7.frozen? ⟨H2, 0, none⟩ = false := (F7.out.frozen (p := ⟨H2, 0, none⟩) B4.out.lt (fun h => h)).trans d2; have d7 : w7.frozen? ⟨H2, 1, none⟩ = false := (F7.out.frozen (p := ⟨H2, 1, none⟩) B4.out.lt (fun h => h)).trans d3; obtain ⟨A7, n7, c7, rfl⟩ := o7.form)
                | (go_at_call 37; refine (HPT w5).out.mono ?_; rintro e w6 ⟨v6, rfl, o6, n6, f6⟩; have z0 : w6.cell? ⟨H3, 0, none⟩ = some (.int .i64 ep) := f6.cell' y0; have z1 : w6.cell? ⟨H3, 1, none⟩ = some (.slice (some ⟨b, off, none⟩) n c) := f6.cell' y1; have z2 : w6.cell? ⟨H1, 0, none⟩ = some (.string p) := f6.cell' y2; have z3 : w6.cell? ⟨H1, 1, none⟩ = some (.string q) := f6.cell' y3; have z4 : w6.cell? ⟨b, off + k * 4, none⟩ = some (.string lo) := f6.cell' y4; have z5 : w6.cell? ⟨b, off + k * 4 + 1, none⟩ = some (.string hi) := f6.cell' y5; have z6 : w6.cell? ⟨b, off + k * 4 + 2, none⟩ = some (.int .i64 xg) := f6.cell' y6; have z7 : w6.cell? ⟨b, off + k * 4 + 3, none⟩ = some (.int .i64 xe) := f6.cell' y7)
                | (go_at_call 36; refine (cloneSh_any _ _ xs RV.out (by omega)).mono ?_; rintro e w5 ⟨v5, rfl, o5, n5, f5⟩; have y0 : w5.cell? ⟨H3, 0, none⟩ = some (.int .i64 ep) := f5.cell' q0; have y1 : w5.cell? ⟨H3, 1, none⟩ = some (.slice (some ⟨b, off, none⟩) n c) := f5.cell' q1; have y2 : w5.cell? ⟨H1, 0, none⟩ = some (.string p) := f5.cell' q2; have y3 : w5.cell? ⟨H1, 1, none⟩ = some (.string q) := f5.cell' q3; have y4 : w5.cell? ⟨b, off + k * 4, none⟩ = some (.string lo) := f5.cell' q4; have y5 : w5.cell? ⟨b, off + k * 4 + 1, none⟩ = some (.string hi) := f5.cell' q5; have y6 : w5.cell? ⟨b, off + k * 4 + 2, none⟩ = some (.int .i64 xg) := f5.cell' q6; have y7 : w5.cell? ⟨b, off + k * 4 + 3, none⟩ = some (.int .i64 xe) := f5.cell' q7))
            all_goals
              have N7 : Hid (n7 = (xs.take k ++ (PL ++ xs.drop (k + 1))).length) := by
                obtain ⟨_, A', c', e, _⟩ := o7.rd
                simp only [Value.slice.injEq] at e
                exact e.2.1
              obtain ⟨R, hR⟩ : ∃ R, R = xs.take k ++ (PL ++ xs.drop (k + 1)) := ⟨_, rfl⟩
              rw [← hR] at N7 HK2 o7
              have O7 := Lib.hid o7
              have FF : Hid (Fr Nix w w7) := F3d.out.nix F7.out
              have NB : Hid (∀ i, (Value.slice A7 n7 c7).ownBlock = some i → w3.heap.size ≤ i) := fun i hi => by
                rcases a7 with e | e
                · rw [e] at hi; exact n5 i hi
                · rw [e] at hi
                  cases hi
                  exact Nat.le_trans f5.size f6.size
              have LH : Hid (H2 < w3.heap.size) := B4.out.lt
              have SZ : Hid (w.heap.size ≤ w3.heap.size) := F3.out.size
              clear hR o7 f7 a7 f5 f6 n5 n6 o5 o6 F7 F3d F3 B4 RV HPT HV HR HB hpos hle hkl hxl hk hkn hb hbl
              by_cases hep : ep = 1073741824
              · have HF : Hid (B = (Shs.zero, 8)) := HK2.out.trans (if_pos (.inl hep))
                subst hep
                go_wp2_with fail
                refine bodyPost_ret (v := .tuple #[.agg #[.int .i64 0, .slice none 0 0], .int .i64 8]) (by simp [results, Try.results11, go_sem, *]; try rfl) rfl (tells_zero HF.out ?_)
                exact (FF.out.setCell (p := ⟨H2, 0, none⟩) (.inl hw2) _).setCell (p := ⟨H2, 1, none⟩) (.inl hw2) _
              · by_cases h40 : 40 < n7
                · have HF : Hid (B = (Shs.zero, 8)) := HK2.out.trans (if_pos (.inr (by rw [← N7.out]; exact h40)))
                  have h40i : (40 : Int) < (n7 : Int) := by omega
                  go_wp2_with fail
                  refine bodyPost_ret (v := .tuple #[.agg #[.int .i64 0, .slice none 0 0], .int .i64 8]) (by simp [results, Try.results11, go_sem, *]; try rfl) rfl (tells_zero HF.out ?_)
                  exact (FF.out.setCell (p := ⟨H2, 0, none⟩) (.inl hw2) _).setCell (p := ⟨H2, 1, none⟩) (.inl hw2) _
                · have HF : Hid (B = (⟨ep + 1, R⟩, 0)) := HK2.out.trans (if_neg (fun h => h.elim hep (fun h => h40 (by rw [N7.out]; exact h))))
                  have h40i : ¬ (40 : Int) < (n7 : Int) := by omega
                  go_wp2_with fail
                  refine bodyPost_ret (v := .tuple #[.agg #[.int .i64 (ep + 1), .slice A7 n7 c7], .int .i64 0]) (by simp [results, Try.results11, go_sem, *]; try rfl) rfl ?_
                  refine ⟨.slice A7 n7 c7, by rw [HF.out], ?_, fun i hi => Nat.le_trans SZ.out (NB.out i hi), ?_⟩
                  · rw [HF.out]
                    exact O7.out.mono (((Fr.refl (fun i => i = H2) w7).setCell (p := ⟨H2, 0, none⟩) (.inr rfl) _).setCell (p := ⟨H2, 1, none⟩) (.inr rfl) _) (fun i hi e => by have := NB.out i hi; have := LH.out; have e' : i = H2 := e; omega)
                  · exact (FF.out.setCell (p := ⟨H2, 0, none⟩) (.inl hw2) _).setCell (p := ⟨H2, 1, none⟩) (.inl hw2) _
end Go.Proofs.Ytpggnelngfpfgaa
