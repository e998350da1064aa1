/- Walks of package shares: First, parted, Turn. -/
import Derived.Test.YtpggnelngfpfgaaShQ
import Derived.Test.YtpggnelngfpfgaaShX
import Derived.Test.YtpggnelngfpfgaaShK
namespace Go.Proofs.Ytpggnelngfpfgaa
open Go.RowKit

theorem src_lit {α : Type} {C : Cod α} {T : TypeId} (W : World) (xs : List α) (b : Nat) (hb : b = W.heap.size) (hl : xs.length ≤ 1000) (c : Nat) :
    Src (W.alloc (.cells (C.cells xs).toArray T)) C.sz (.slice (some ⟨b, 0, none⟩) xs.length c) xs.length (C.cells xs) := by
  subst hb
  exact (RdC.of_blk (C := C) (xs := xs) (Blk.new W (C.cells xs) T) (by omega) (List.take_of_length_le (by rw [C.cells_length]; exact Nat.le_refl _)) c).src

theorem own_lit {α : Type} {C : Cod α} {T : TypeId} (W : World) (xs : List α) (b : Nat) (hb : b = W.heap.size) (hl : xs.length ≤ 1000) :
    OwnC C T (W.alloc (.cells (C.cells xs).toArray T)) (.slice (some ⟨b, 0, none⟩) xs.length xs.length) xs := by
  subst hb
  exact OwnC.lit C T W xs hl
def firstB (g : Int) : Shs := ⟨1, [⟨⟨#[]⟩, ⟨#[]⟩, if inB g 1 4 then g else 1, 1⟩]⟩
set_option maxRecDepth 100000 in
set_option maxHeartbeats 1000000 in
theorem first_any (w : World) (g : Int) : Calls Try.prog 9 #[.int .i64 g] w fun e w' => ∃ v', e = .returned (.agg #[.int .i64 1, v']) ∧ OwnSh w' v' (firstB g).l ∧ New w v' ∧ Fr Nix w w' := by
  cases hg : inB g 1 4 with
  | true =>
    have hG : Hid ((firstB g).l = [⟨⟨#[]⟩, ⟨#[]⟩, g, 1⟩]) := by show _ = _; unfold firstB; rw [hg]; rfl
    go_enter Try.func9, Try.ntmps9
    go_wp2_with fail
    refine (withinI_any _ _ _ _).mono ?_
    rintro e w1 ⟨rfl, rfl⟩
    rw [hg]
    clear hg
    go_wp2_with fail
    refine (all_any _).mono ?_
    rintro e w1 ⟨rfl, h1⟩
    have B1 : Blk w1 w.heap.size [.int .i64 0, .slice none 0 0] 26 := (Blk.new w [.int .i64 0, .slice none 0 0] _).mono h1 (fun h => h)
    have hlt := ups B1.lt
    have c0 : w1.cell? ⟨w.heap.size, 0, none⟩ = some (.int .i64 0) := B1.cell 0
    have c1 : w1.cell? ⟨w.heap.size, 1, none⟩ = some (.slice none 0 0) := B1.cell 1
    have f0 : w1.frozen? ⟨w.heap.size, 0, none⟩ = false := B1.frozen 0
    have f1 : w1.frozen? ⟨w.heap.size, 1, none⟩ = false := B1.frozen 1
    have F1 : Hid (Fr Nix w w1) := ((Fr.refl _ _).alloc _).nix h1
    have hl0 := B1.lt
    clear h1 B1
    go_wp2_with fail
    refine bodyPost_ret (v := .agg #[.int .i64 1, .slice (some ⟨w1.heap.size, 0, none⟩) 1 1]) (by simp [results, Try.results9, go_sem, *]; try rfl) rfl ⟨_, rfl, ?_, ?_, ?_⟩
    · rw [hG.out]
      exact own_lit (C := cSh) _ [⟨ByteArray.empty, ByteArray.empty, g, 1⟩] _ (by simp [World.setCell]) (by simp)
    · intro k hk
      cases hk
      exact F1.out.size
    · exact (((F1.out.setCell (p := ⟨w.heap.size, 0, none⟩) (.inl (Nat.le_refl _)) _).setCell (p := ⟨w.heap.size, 1, none⟩) (.inl (Nat.le_refl _)) _)).alloc _
  | false =>
    have hG : Hid ((firstB g).l = [⟨⟨#[]⟩, ⟨#[]⟩, 1, 1⟩]) := by show _ = _; unfold firstB; rw [hg]; rfl
    go_enter Try.func9, Try.ntmps9
    go_wp2_with fail
    refine (withinI_any _ _ _ _).mono ?_
    rintro e w1 ⟨rfl, rfl⟩
    rw [hg]
    clear hg
    go_wp2_with fail
    refine (all_any _).mono ?_
    rintro e w1 ⟨rfl, h1⟩
    have B1 : Blk w1 w.heap.size [.int .i64 0, .slice none 0 0] 26 := (Blk.new w [.int .i64 0, .slice none 0 0] _).mono h1 (fun h => h)
    have hlt := ups B1.lt
    have c0 : w1.cell? ⟨w.heap.size, 0, none⟩ = some (.int .i64 0) := B1.cell 0
    have c1 : w1.cell? ⟨w.heap.size, 1, none⟩ = some (.slice none 0 0) := B1.cell 1
    have f0 : w1.frozen? ⟨w.heap.size, 0, none⟩ = false := B1.frozen 0
    have f1 : w1.frozen? ⟨w.heap.size, 1, none⟩ = false := B1.frozen 1
    have F1 : Hid (Fr Nix w w1) := ((Fr.refl _ _).alloc _).nix h1
    have hl0 := B1.lt
    clear h1 B1
    go_wp2_with fail
    refine bodyPost_ret (v := .agg #[.int .i64 1, .slice (some ⟨w1.heap.size, 0, none⟩) 1 1]) (by simp [results, Try.results9, go_sem, *]; try rfl) rfl ⟨_, rfl, ?_, ?_, ?_⟩
    · rw [hG.out]
      exact own_lit (C := cSh) _ [⟨ByteArray.empty, ByteArray.empty, 1, 1⟩] _ (by simp [World.setCell]) (by simp)
    · intro k hk
      cases hk
      exact F1.out.size
    · exact (((F1.out.setCell (p := ⟨w.heap.size, 0, none⟩) (.inl (Nat.le_refl _)) _).setCell (p := ⟨w.heap.size, 1, none⟩) (.inl (Nat.le_refl _)) _)).alloc _

theorem cutL_length (hi : ByteArray) : ∀ (ks : List ByteArray) (lo : ByteArray), 1 ≤ (cutL lo hi ks).length ∧ (cutL lo hi ks).length ≤ ks.length + 1
  | [], lo => by simp [cutL]
  | k :: ks, lo => by
    have h1 := cutL_length hi ks lo
    have h2 := cutL_length hi ks k
    rw [cutL, List.length_cons]
    split
    · split
      · omega
      · rw [List.length_cons]; omega
    · omega
theorem cutB_length (lo hi : ByteArray) (ats : List ByteArray) : (cutB lo hi ats).length ≤ ats.length + 1 := by
  unfold cutB
  split
  · have := (cutL_length hi (keysU ats) lo).2
    have := keysU_length ats
    omega
  · simp
theorem partedL_length (x : Shr) (p q : ByteArray) (g e : Int) : (partedL x p q g e).length ≤ 3 := by
  unfold partedL
  rw [List.length_map]
  exact cutB_length _ _ _
theorem partedL_pos (x : Shr) (p q : ByteArray) (g e : Int) (h : rightB x.lo x.hi = true) : 1 ≤ (partedL x p q g e).length := by
  unfold partedL
  rw [List.length_map]
  unfold cutB
  rw [if_pos h]
  exact (cutL_length _ _ _).1
set_option maxRecDepth 100000 in
set_option maxHeartbeats 4000000 in
/-- A share, cut at the ends of a span. -/
theorem parted_any (w : World) (x : Shr) (p q : ByteArray) (g ep : Int) :
    Calls Try.prog 37 #[x.val, .agg #[.string p, .string q], .int .i64 g, .int .i64 ep] w fun e w' => ∃ v', e = .returned v' ∧ OwnSh w' v' (partedL x p q g ep) ∧ New w v' ∧ Fr Nix w w' := by
  obtain ⟨i0, hi0, hz0, hz1, hz2⟩ := info_parts infoSh
  obtain ⟨lo, hi, xg, xe⟩ := x
  have HP : Hid (partedL ⟨lo, hi, xg, xe⟩ p q g ep = (cutB lo hi [p, q]).map fun s => if s.k = p ∧ s.v = q then ⟨s.k, s.v, g, ep⟩ else ⟨s.k, s.v, xg, xe⟩) := rfl
  have hcl := partedL_length ⟨lo, hi, xg, xe⟩ p q g ep
  unfold Shr.val
  dsimp only
  have HCUT := fun W (A : Value) h => Lib.hid (cut_any W lo hi A [p, q] h (by simp))
  go_enter Try.func37, Try.ntmps37
  go_wp2_with fail
  have RT : RdT (((w.alloc (.cells #[.string lo, .string hi, .int .i64 xg, .int .i64 xe] 41)).alloc (.cells #[.string p, .string q] 29)).alloc (.cells #[.string p, .string q] 9)) (.slice (some ⟨w.heap.size + 1 + 1, 0, none⟩) 2 2) [p, q] := by
    have h := (Own1.lit (T := 9) (f := Value.string) ((w.alloc (.cells #[.string lo, .string hi, .int .i64 xg, .int .i64 xe] 41)).alloc (.cells #[.string p, .string q] 29)) [p, q] (by simp)).rd
    simp only [World.size_alloc] at h
    exact h
  refine (HCUT _ _ RT).out.mono ?_
  rintro e w1 ⟨v1, rfl, h1, h2, h3⟩
  clear HCUT RT
  have a0 : w1.cell? ⟨w.heap.size, 2, none⟩ = some (.int .i64 xg) := h3.cell' (by go_simp)
  have a1 : w1.cell? ⟨w.heap.size, 3, none⟩ = some (.int .i64 xe) := h3.cell' (by go_simp)
  have a1' : w1.cell? ⟨w.heap.size, 2 + 1, none⟩ = some (.int .i64 xe) := a1
  have a2 : w1.cell? ⟨w.heap.size + 1, 0, none⟩ = some (.string p) := h3.cell' (by go_simp)
  have a3 : w1.cell? ⟨w.heap.size + 1, 1, none⟩ = some (.string q) := h3.cell' (by go_simp)
  have F1 : Hid (Fr Nix w w1) := ((((Fr.refl _ _).alloc _).alloc _).alloc _).nix h3
  have R1 := Lib.hid h1.rd
  clear h1 h2 h3
  obtain ⟨n, hn⟩ : ∃ n, n = (cutB lo hi [p, q]).length := ⟨_, rfl⟩
  obtain ⟨A1, c1, ev1⟩ : ∃ A c, v1 = .slice A n c := by obtain ⟨_, A, c, e, _⟩ := R1.out; exact ⟨A, c, by rw [hn]; exact e⟩
  subst ev1
  generalize cutB lo hi [p, q] = cs at HP R1 hn
  have HN := Lib.hid hn
  have hn3 : n ≤ 3 := by rw [HP.out, List.length_map] at hcl; omega
  obtain ⟨PL, hPL⟩ : ∃ PL, PL = partedL ⟨lo, hi, xg, xe⟩ p q g ep := ⟨_, rfl⟩
  have HPL := Lib.hid hPL
  rw [← hPL] at HP hcl
  clear hPL
  clear hn hcl
  go_wp2_with fail
  go_loopg [9, 22] n (fun gg s9 s22 wr => ∃ (k : Nat) (A : Option Addr) (L c : Nat), k ≤ n ∧ n - k ≤ gg ∧ s22 = .int .i64 k ∧ s9 = .slice A L c ∧ Hid (OwnSh wr (.slice A L c) (PL.take k) ∧ New w1 (.slice A L c) ∧ Fr Nix w1 wr))
  case atStart => exact ⟨0, none, 0, 0, Nat.zero_le _, by omega, rfl, rfl, World.ownsRow_nil _ _ _ _, (fun k hk => by cases hk), Fr.refl _ _⟩
  case round =>
    obtain ⟨k, A5, L5, c5, hk, hg, rfl, rfl, H⟩ := hrel
    by_cases hlt : k < n
    · have hlti : (k : Int) < (n : Int) := by omega
      have hlt' : k < cs.length := by rw [← HN.out]; exact hlt
      obtain ⟨_, A', c', e, hr⟩ := R1.out
      rw [← HN.out] at e
      simp only [Value.slice.injEq] at e
      obtain ⟨rfl, e2, rfl⟩ := e
      clear e2
      rcases hr with h0 | ⟨b, off, rfl, hb, hc⟩
      · rw [h0] at hlt'; cases hlt'
      have x0 := H.out.2.2.cell' (hc k hlt').1
      have x1 := H.out.2.2.cell' (hc k hlt').2
      have hT : Hid (PL.take (k + 1) = PL.take k ++ [if cs[k].k = p ∧ cs[k].v = q then ⟨cs[k].k, cs[k].v, g, ep⟩ else ⟨cs[k].k, cs[k].v, xg, xe⟩] ∧ (PL.take k).length = k) := by
        rw [HP.out]
        constructor
        · rw [List.take_succ_eq_append_getElem (by simpa using hlt')]
          simp
        · simp; omega
      have b0 := H.out.2.2.cell' a0
      have b1 := H.out.2.2.cell' a1
      have b2 := H.out.2.2.cell' a2
      have b3 := H.out.2.2.cell' a3
      clear hc
      generalize cs[k] = s at x0 x1 hT
      obtain ⟨slo, shi⟩ := s
      dsimp only at x0 x1 hT
      generalize PL.take k = acc at H hT
      have hacc : Hid (acc.length = k) := hT.out.2
      have hsz := H.out.2.2.size
      have z0 := ups (World.block_lt_of_cell? _ _ b0)
      have z1 := ups (World.block_lt_of_cell? _ _ b2)
      by_cases heq : slo = p ∧ shi = q
      · have hT2 : Hid (PL.take (k + 1) = acc ++ [⟨slo, shi, g, ep⟩]) := by have := hT.out.1; rw [if_pos heq] at this; exact this
        obtain ⟨h1, h2⟩ := heq
        subst h1
        subst h2
        clear hT
        go_wp2_with (at_builtin; refine wp_append rfl _ _ 24 rfl 41 i0 _ 4 48 Try.underlying24 hi0 hz0 hz1 hz2 rfl (by decide) _ acc.length (cSh.cells acc) rfl ?c1 _ rfl 1 (cSh.cells [⟨slo, shi, g, ep⟩]) ?c2 ?c3 ?c4 ?c5)
        case c1 => exact H.out.1.nix (by repeat (first | exact Fr.refl _ _ | refine Fr.alloc ?_ _ | refine Fr.setCell ?_ (.inl (by simp)) _))
        case c2 => exact src_lit (C := cSh) _ [⟨slo, shi, g, ep⟩] _ (by simp [World.setCell]) (by simp) _
        case c3 => rw [hacc.out]; simp only [maxLen]; omega
        case c4 => rw [hacc.out]; omega
        case c5 =>
          intro v' w' ho' hf hat
          have N : Hid (OwnSh w' v' (PL.take (k + 1)) ∧ New w1 v' ∧ Fr Nix w1 w') := by
            refine ⟨?_, fun i hi' => ?_, (H.out.2.2.nix (by repeat (first | exact Fr.refl _ _ | refine Fr.alloc ?_ _ | refine Fr.setCell ?_ (.inl (by simp)) _))).then hf (fun i hi' e => by have := H.out.2.1 i e; omega)⟩
            · rw [hT2.out]
              show w'.ownsRow _ _ _ _ _ _
              rw [List.length_append, Cod.cells_append]
              exact ho'
            · rcases hat with e | e
              · rw [e] at hi'; exact H.out.2.1 i hi'
              · rw [e] at hi'
                cases hi'
                first | omega | (simp [World.setCell]; omega)
          clear ho' hf hat
          obtain ⟨A6, L6, c6, rfl⟩ := N.out.1.form
          go_wp2_with fail
          go_roundg (n - (k + 1))
          case measure => omega
          case rel => exact ⟨k + 1, A6, L6, c6, by omega, by omega, by go_num, rfl, N.out⟩
      · have hT2 : Hid (PL.take (k + 1) = acc ++ [⟨slo, shi, xg, xe⟩]) := by have := hT.out.1; rw [if_neg heq] at this; exact this
        have hd : (decide (slo = p) && decide (shi = q)) = false := by
          rw [← Bool.not_eq_true, Bool.and_eq_true, decide_eq_true_eq, decide_eq_true_eq]; exact heq
        clear hT heq
        go_wp2_with (at_builtin; refine wp_append rfl _ _ 24 rfl 41 i0 _ 4 48 Try.underlying24 hi0 hz0 hz1 hz2 rfl (by decide) _ acc.length (cSh.cells acc) rfl ?c1 _ rfl 1 (cSh.cells [⟨slo, shi, xg, xe⟩]) ?c2 ?c3 ?c4 ?c5)
        case c1 => exact H.out.1.nix (by repeat (first | exact Fr.refl _ _ | refine Fr.alloc ?_ _ | refine Fr.setCell ?_ (.inl (by simp)) _))
        case c2 => exact src_lit (C := cSh) _ [⟨slo, shi, xg, xe⟩] _ (by simp [World.setCell]) (by simp) _
        case c3 => rw [hacc.out]; simp only [maxLen]; omega
        case c4 => rw [hacc.out]; omega
        case c5 =>
          intro v' w' ho' hf hat
          have N : Hid (OwnSh w' v' (PL.take (k + 1)) ∧ New w1 v' ∧ Fr Nix w1 w') := by
            refine ⟨?_, fun i hi' => ?_, (H.out.2.2.nix (by repeat (first | exact Fr.refl _ _ | refine Fr.alloc ?_ _ | refine Fr.setCell ?_ (.inl (by simp)) _))).then hf (fun i hi' e => by have := H.out.2.1 i e; omega)⟩
            · rw [hT2.out]
              show w'.ownsRow _ _ _ _ _ _
              rw [List.length_append, Cod.cells_append]
              exact ho'
            · rcases hat with e | e
              · rw [e] at hi'; exact H.out.2.1 i hi'
              · rw [e] at hi'
                cases hi'
                first | omega | (simp [World.setCell]; omega)
          clear ho' hf hat
          obtain ⟨A6, L6, c6, rfl⟩ := N.out.1.form
          go_wp2_with fail
          go_roundg (n - (k + 1))
          case measure => omega
          case rel => exact ⟨k + 1, A6, L6, c6, by omega, by omega, by go_num, rfl, N.out⟩
    · obtain rfl : k = n := by omega
      go_wp2
      go_ret
      exact ⟨_, rfl, by have := H.out.1; rw [List.take_of_length_le (by rw [HP.out, List.length_map, HN.out]; exact Nat.le_refl _), HPL.out] at this; exact this, (fun i hi => Nat.le_trans F1.out.size (H.out.2.1 i hi)), F1.out.nix H.out.2.2⟩
end Go.Proofs.Ytpggnelngfpfgaa
