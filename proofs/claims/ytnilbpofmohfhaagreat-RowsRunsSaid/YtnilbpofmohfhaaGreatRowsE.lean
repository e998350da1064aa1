/- Rows, fifth part: Get, Take, Put, Copy of a table. -/
import Derived.Test.YtnilbpofmohfhaaGreatRowsD
namespace Go.Proofs.YtnilbpofmohfhaaGreat
open Go.RowKit

def getR (key : ByteArray) (xs : List Rw) : ByteArray := match xs[posR key xs]? with
  | some x => if x.k = key then x.v else ⟨#[]⟩
  | none => ⟨#[]⟩
set_option maxHeartbeats 1000000 in
theorem get_any (w : World) (b : Nat) (xs : List Rw) (key : ByteArray) (h : IsT w b xs) :
    Calls Tryz.prog 13 #[.pointer (some ⟨b, 0, none⟩), .string key] w fun e w' =>
      e = .returned (.tuple #[.string (getR key xs), .bool (hitR key xs)]) ∧ Fr Nix w w' := by
  obtain ⟨v, hb, ho, hne, hs, hl⟩ := h
  have h0 : w.cell? ⟨b, 0, none⟩ = some v := hb.cell 0
  have h1 : w.cell? ⟨b, 1, none⟩ = some (.bool true) := hb.cell 1
  have HA := Lib.hid (at_any w b v xs key h0 ho.rd hs (by omega))
  have hcs := ho.rd
  clear hb ho hs
  cases hh : hitR key xs with
  | false =>
    have hg : Hid (getR key xs = ⟨#[]⟩) := by
      show _ = _
      unfold getR
      unfold hitR at hh
      split
      · rename_i x hx
        rw [hx] at hh
        rw [if_neg (by simpa using hh)]
      · rfl
    rw [hh] at HA
    clear hh
    go_enter Tryz.func13, Tryz.ntmps13
    go_wp2_with (first | (go_at_call 25; refine (known_any _ _ true (by go_simp)).mono ?_; rintro e w' ⟨rfl, rfl⟩) | (go_at_call 31; refine HA.out.mono ?_; rintro e w1 ⟨rfl, hw1⟩))
    go_ret2
    exact ⟨by rw [hg.out]; rfl, hw1⟩
  | true =>
    obtain ⟨hp, hk⟩ := hit_at hh
    have hg : Hid (getR key xs = xs[posR key xs].v) := by
      show _ = _
      unfold getR
      rw [List.getElem?_eq_getElem hp]
      dsimp only
      rw [if_pos hk]
    obtain ⟨hm, A, c, rfl, hr⟩ := hcs
    rcases hr with rfl | ⟨g, off, rfl, hgl, hc⟩
    · cases hp
    have hc1 := hc _ hp
    have hpl := posR_le key xs
    rw [hh] at HA
    clear hh hc hk
    generalize xs[posR key xs] = y at hg hc1
    generalize posR key xs = i at HA hp hc1 hpl
    have hpi : (i : Int) < (xs.length : Int) := by omega
    go_enter Tryz.func13, Tryz.ntmps13
    go_wp2_with (first | (go_at_call 25; refine (known_any _ _ true (by go_simp)).mono ?_; rintro e w' ⟨rfl, rfl⟩) | (go_at_call 31; refine HA.out.mono ?_; rintro e w1 ⟨rfl, hw1⟩; have c0 := hw1.cell' h0; have c1 := hw1.cell' hc1.1; have c2 := hw1.cell' hc1.2))
    go_ret2
    exact ⟨by rw [hg.out]; rfl, hw1⟩

/-- What is left without a span's rows. -/
def outR (lo hi : ByteArray) (xs : List Rw) : List Rw := xs.take (bnds lo hi xs).1 ++ xs.drop (bnds lo hi xs).2
theorem out_rising {lo hi : ByteArray} {xs : List Rw} (hs : Rising xs) : Rising (outR lo hi xs) := by
  have hb := bnds_le lo hi xs hs
  unfold outR
  refine List.Pairwise.sublist ?_ hs
  have e := List.take_append_drop (bnds lo hi xs).1 xs
  have h2 : xs.drop (bnds lo hi xs).2 = (xs.drop (bnds lo hi xs).1).drop ((bnds lo hi xs).2 - (bnds lo hi xs).1) := by rw [List.drop_drop]; congr 1; omega
  rw [h2]
  conv => rhs; rw [← e]
  exact List.Sublist.append (List.Sublist.refl _) (List.drop_sublist _ _)
theorem out_length (lo hi : ByteArray) (xs : List Rw) (hs : Rising xs) : (outR lo hi xs).length ≤ xs.length := by
  have hb := bnds_le lo hi xs hs
  unfold outR
  simp
  omega

set_option maxHeartbeats 2000000 in
theorem take_any (w : World) (b : Nat) (xs : List Rw) (lo hi : ByteArray) (h : IsT w b xs) :
    Calls Tryz.prog 21 #[.pointer (some ⟨b, 0, none⟩), .agg #[.string lo, .string hi]] w fun e w' =>
      ∃ v', e = .returned v' ∧ OwnR w' v' (inR lo hi xs) ∧ New w v' ∧ IsT w' b (outR lo hi xs) ∧ Fr (FootT w b) w w' ∧ (∀ k, FootT w' b k → FootT w b k) := by
  have hT := Lib.hid h
  have hlt : b < w.heap.size := h.lt (.inl rfl)
  have HIN := Lib.hid (in_any (w.alloc (.cells #[.string lo, .string hi] 36)) b xs lo hi (h.mono ((Fr.refl Nix _).alloc _) (fun _ _ h => h)))
  obtain ⟨v, hb, ho, hne, hs, hl⟩ := h
  have hbn := bnds_le lo hi xs hs
  have HO : Hid (outR lo hi xs = xs.take (bnds lo hi xs).1 ++ xs.drop (bnds lo hi xs).2) := rfl
  have HS : Hid (Rising (outR lo hi xs) ∧ (outR lo hi xs).length ≤ 400) := ⟨out_rising hs, Nat.le_trans (out_length lo hi xs hs) hl⟩
  have HBD := fun W h1 h2 => Lib.hid (bounds_any W b v xs lo hi h1 h2 hs (by omega))
  obtain ⟨A, l, c, e0⟩ := ho.form
  subst e0
  have HBL := Lib.hid hb
  have HOW := Lib.hid ho
  clear hb ho hs
  generalize bnds lo hi xs = q at hbn HO HBD
  obtain ⟨i, j⟩ := q
  obtain ⟨hij, hj⟩ := hbn
  dsimp only at hij hj HO HBD
  go_enter Tryz.func21, Tryz.ntmps21
  go_wp2_with fail
  refine HIN.out.mono ?_
  rintro e w1 ⟨v', rfl, h2, h3, h4⟩
  have F1 : Hid (Fr Nix w w1) := ((Fr.refl _ _).alloc _).nix h4
  have d0 : w1.cell? ⟨w.heap.size, 0, none⟩ = some (.string lo) := h4.cell' (by go_simp)
  have d1 : w1.cell? ⟨w.heap.size, 1, none⟩ = some (.string hi) := h4.cell' (by go_simp)
  have hz := ups (show w.heap.size < w1.heap.size by have := h4.size; rw [World.size_alloc] at this; omega)
  have B1 : Hid (Blk w1 b [.slice A l c, .bool true] 58) := HBL.out.mono F1.out (fun h => h)
  have O1 : Hid (OwnR w1 (.slice A l c) xs) := HOW.out.mono F1.out (fun _ _ h => h)
  have b0 : w1.cell? ⟨b, 0, none⟩ = some (.slice A l c) := B1.out.cell 0
  have b1 : w1.cell? ⟨b, 1, none⟩ = some (.bool true) := B1.out.cell 1
  have H2 := Lib.hid h2
  have H3 := Lib.hid h3
  clear h2 h3 h4
  obtain ⟨A', l', c', e1⟩ : ∃ A l c, v' = .slice A l c := H2.out.form
  subst e1
  go_wp2_with (go_at_call 25; refine (known_any _ _ true b1).mono ?_; rintro e w' ⟨rfl, rfl⟩)
  go_region_with (go_at_call 34; refine (HBD _ (by go_simp) (O1.out.mono ((Fr.refl Nix _).drew) (fun _ _ h => h))).out.mono ?_; rintro e w2 ⟨rfl, hw2⟩)
  have F2 : Hid (Fr Nix w1 w2) := ((Fr.refl _ _).drew).nix hw2
  have b2 : w2.cell? ⟨b, 0, none⟩ = some (.slice A l c) := F2.out.cell' b0
  have HD := Lib.hid (delete_any w2 _ xs i j (O1.out.mono F2.out (fun _ _ h => h)) hij hj)
  clear hw2
  go_wp2_with fail
  refine HD.out.mono ?_
  rintro e w3 ⟨v3, rfl, h5, h6, h7⟩
  obtain ⟨A3, l3, c3, rfl⟩ := h5.form
  have B3 : Hid (Blk w3 b [.slice A l c, .bool true] 58) := (B1.out.mono F2.out (fun h => h)).mono h6 hne
  have b3 : w3.cell? ⟨b, 0, none⟩ = some (.slice A l c) := B3.out.cell 0
  have f3 : w3.frozen? ⟨b, 0, none⟩ = false := B3.out.frozen 0
  have H5 := Lib.hid h5
  have H6 := Lib.hid h6
  have H7 := Lib.hid h7
  clear h5 h6 h7
  go_wp2_with fail
  go_ret
  have hne3 : (Value.slice A3 l3 c3).ownBlock ≠ some b := by rw [H7.out]; exact hne
  have hlA : ∀ k, (Value.slice A l c).ownBlock = some k → k < w.heap.size := fun k hk => own_lt HOW.out k hk
  have hne' : ∀ k, (Value.slice A' l' c').ownBlock = some k → ¬ (Foot (.slice A l c) k) := fun k hk h => by
    have := H3.out k hk
    simp at this
    have := hlA k h
    omega
  have F13 : Fr (Foot (.slice A l c)) w1 w3 := F2.out.any.trans H6.out
  refine ⟨_, rfl, ?_, ?_, ?_, ?_, ?_⟩
  · refine (H2.out.mono F13 hne').mono ((Fr.refl (fun k => k = b) _).setCell (p := ⟨b, 0, none⟩) (.inr rfl) _) (fun k hk h => ?_)
    have := H3.out k hk
    simp at this
    omega
  · intro k hk
    have := H3.out k hk
    simp at this
    omega
  · refine ⟨_, B3.out.set 0 (.slice A3 l3 c3), ?_, hne3, HS.out.1, HS.out.2⟩
    rw [HO.out]
    exact H5.out.mono ((Fr.refl (fun k => k = b) _).setCell (p := ⟨b, 0, none⟩) (.inr rfl) _) (fun k hk h => hne3 (by rw [hk, h]))
  · have hf : Fr (FootT w b) w w3 := F1.out.any.then F13 (fun k _ h => .inr ⟨_, HBL.out.cell 0, h⟩)
    exact hf.setCell (p := ⟨b, 0, none⟩) (.inr (.inl rfl)) _
  · rintro k (rfl | ⟨v4, h8, h9⟩)
    · exact .inl rfl
    · rw [cell_set _ _ _ _ b3] at h8
      cases h8
      rw [H7.out] at h9
      exact .inr ⟨_, HBL.out.cell 0, h9⟩

/-! ### Put -/
def putL (xs l : List Rw) : List Rw := l.foldl (fun acc x => putR x acc) xs
def putE (xs l : List Rw) : Int := if l.any (fun x => !rwB x) then 2 else if 400 < (putL xs l).length then 8 else 0
def putT (xs l : List Rw) : List Rw := if putE xs l = 0 then putL xs l else xs
theorem putL_snoc (xs l : List Rw) (k : Nat) (h : k < l.length) : putL xs (l.take (k + 1)) = putR l[k] (putL xs (l.take k)) := by
  rw [List.take_succ_eq_append_getElem h, putL, List.foldl_append]; rfl
theorem putL_rising {xs : List Rw} (hs : Rising xs) : ∀ l, Rising (putL xs l) := by
  intro l
  unfold putL
  induction l generalizing xs with
  | nil => exact hs
  | cons x r ih => exact ih (put_rising hs)
theorem putL_length (l : List Rw) : ∀ xs, (putL xs l).length ≤ xs.length + l.length := by
  unfold putL
  induction l with
  | nil => intro xs; simp
  | cons x r ih => intro xs; have := ih (putR x xs); have := put_length x xs; simp only [List.foldl_cons, List.length_cons]; omega

theorem eg33 : ∀ args w, (callFunc 44 args).run Tryz.prog w = .ok (.enter 44 args) w := fun _ _ => by kernel_rfl
theorem pred33 (w : World) : Pred Tryz.prog 44 #[] (fun x => !rwB x) w := fun W x _ => put1_any x W

set_option maxHeartbeats 4000000 in
theorem putT_any (w : World) (b : Nat) (xs l : List Rw) (lv : Value) (h : IsT w b xs) (hlv : RdR w lv l) (hll : l.length ≤ 1000000000) :
    Calls Tryz.prog 18 #[.pointer (some ⟨b, 0, none⟩), lv] w fun e w' =>
      e = .returned (.int .i64 (putE xs l)) ∧ IsT w' b (putT xs l) ∧ Fr (fun k => k = b) w w' ∧ (∀ k, FootT w' b k → FootT w b k ∨ w.heap.size ≤ k) := by
  have hT := Lib.hid h
  have hlt : b < w.heap.size := h.lt (.inl rfl)
  obtain ⟨v, hb, ho, hne, hs, hl⟩ := h
  obtain ⟨A, n, c, e0⟩ := ho.form
  subst e0
  have HBL := Lib.hid hb
  have HOW := Lib.hid ho
  have HS := Lib.hid hs
  have h0 : w.cell? ⟨b, 0, none⟩ = some (.slice A n c) := hb.cell 0
  have h1 : w.cell? ⟨b, 1, none⟩ = some (.bool true) := hb.cell 1
  have HC := Lib.hid (containsFunc_any 44 #[] (fun x => !rwB x) w lv l hlv (pred33 w) eg33)
  have HLV := Lib.hid hlv
  obtain ⟨A2, c2, hlf⟩ : ∃ A c, lv = .slice A l.length c := by obtain ⟨_, A, c, e, _⟩ := hlv; exact ⟨A, c, e⟩
  subst hlf
  clear hb ho hs hlv
  cases ha : l.any (fun x => !rwB x) with
  | true =>
    have hE : Hid (putE xs l = 2) := by show _ = _; unfold putE; rw [ha]; rfl
    rw [ha] at HC
    clear ha
    go_enter Tryz.func18, Tryz.ntmps18
    go_wp2_with (first | (go_at_call 25; refine (known_any _ _ true (by go_simp)).mono ?_; rintro e w' ⟨rfl, rfl⟩) | (go_at_call 43; refine HC.out.mono ?_; rintro e w1 ⟨rfl, hw1⟩))
    go_ret
    refine ⟨by rw [hE.out]; rfl, ?_, hw1.any, fun k hk => .inl ?_⟩
    · unfold putT
      rw [if_neg (by rw [hE.out]; decide)]
      exact hT.out.mono hw1 (fun _ _ h => h)
    · exact (FootT.same hT.out hw1 (fun _ _ h => h)).1 hk
  | false =>
    have hE : Hid (putE xs l = if 400 < (putL xs l).length then 8 else 0) := by show _ = _; unfold putE; rw [ha]; rfl
    rw [ha] at HC
    clear ha
    go_enter Tryz.func18, Tryz.ntmps18
    go_wp2_with (first | (go_at_call 25; refine (known_any _ _ true (by go_simp)).mono ?_; rintro e w' ⟨rfl, rfl⟩) | (go_at_call 43; refine HC.out.mono ?_; rintro e w1 ⟨rfl, hw1⟩; have c1 := hw1.cell' h0))
    have F1 : Hid (Fr Nix w w1) := hw1
    clear hw1
    refine (cloneR_any w1 _ xs (HOW.out.rd.nix F1.out) (by omega)).mono ?_
    rintro e w2 ⟨v2, rfl, h2, h3, h4⟩
    obtain ⟨A3, n3, c3, e3⟩ := h2.form
    subst e3
    have F2 : Hid (Fr Nix w w2) := F1.out.nix h4
    have H2 := Lib.hid h2
    have H3 : Hid (New w (.slice A3 n3 c3)) := fun k hk => Nat.le_trans F1.out.size (h3 k hk)
    clear h2 h3 h4
    have HI0 : Hid (Fr Nix w (w2.alloc (.cells #[.slice A3 n3 c3] 56)) ∧ w2.heap.size < (w2.alloc (.cells #[.slice A3 n3 c3] 56)).heap.size ∧ ∃ v, (w2.alloc (.cells #[.slice A3 n3 c3] 56)).cell? ⟨w2.heap.size, 0, none⟩ = some v ∧
        (w2.alloc (.cells #[.slice A3 n3 c3] 56)).frozen? ⟨w2.heap.size, 0, none⟩ = false ∧ OwnR (w2.alloc (.cells #[.slice A3 n3 c3] 56)) v (putL xs (l.take 0)) ∧ New w v ∧ v.ownBlock ≠ some w2.heap.size) := by
      refine ⟨F2.out.alloc _, by simp, _, (Blk.new w2 [.slice A3 n3 c3] _).cell 0, (Blk.new w2 [.slice A3 n3 c3] _).frozen 0, ?_, H3.out, ?_⟩
      · exact H2.out.mono ((Fr.refl Nix _).alloc _) (fun _ _ h => h)
      · intro e; have := own_lt H2.out _ e; omega
    go_wp2_with fail
    go_loopg [24] l.length (fun gg s24 wr => ∃ k : Nat, k ≤ l.length ∧ l.length - k ≤ gg ∧ s24 = .int .i64 k ∧
      Hid (Fr Nix w wr ∧ w2.heap.size < wr.heap.size ∧ ∃ v, wr.cell? ⟨w2.heap.size, 0, none⟩ = some v ∧ wr.frozen? ⟨w2.heap.size, 0, none⟩ = false ∧ OwnR wr v (putL xs (l.take k)) ∧ New w v ∧ v.ownBlock ≠ some w2.heap.size))
    case atStart => exact ⟨0, Nat.zero_le _, by omega, rfl, HI0.out⟩
    case round =>
      clear HI0
      obtain ⟨k, hk, hg, rfl, H⟩ := hrel
      by_cases hlt2 : k < l.length
      · have hrd := (HLV.out.nix H.out.1)
        obtain ⟨_, A9, c9, e9, hr9⟩ := hrd
        cases e9
        rcases hr9 with h9 | ⟨bb, off, rfl, hbb, hcc⟩
        · rw [h9] at hlt2; cases hlt2
        have x0 := (hcc k hlt2).1
        have x1 := (hcc k hlt2).2
        clear hcc
        have hP : Hid (∀ W v, Fr Nix wr W → wr.cell? ⟨w2.heap.size, 0, none⟩ = some v → wr.frozen? ⟨w2.heap.size, 0, none⟩ = false → OwnR wr v (putL xs (l.take k)) → v.ownBlock ≠ some w2.heap.size → Calls Tryz.prog 46 #[.pointer (some ⟨w2.heap.size, 0, none⟩), l[k].val] W fun e w' =>
            e = .returned (.tuple #[]) ∧ w'.frozen? ⟨w2.heap.size, 0, none⟩ = false ∧ ∃ v', w'.cell? ⟨w2.heap.size, 0, none⟩ = some v' ∧ OwnR w' v' (putL xs (l.take (k + 1))) ∧ Fr (fun i => i = w2.heap.size ∨ Foot v i) W w' ∧ (v'.ownBlock = v.ownBlock ∨ ∃ i, v'.ownBlock = some i ∧ W.heap.size ≤ i)) := by
          intro W v hW q1 q2 q3 q4
          rw [putL_snoc xs l k hlt2]
          have hlen := putL_length (l.take k) xs
          rw [List.length_take] at hlen
          exact put_any W _ v _ l[k] (hW.cell' q1) ((hW.frozen (p := ⟨w2.heap.size, 0, none⟩) H.out.2.1 (fun h => h)).trans q2) (q3.mono hW (fun _ _ h => h)) (putL_rising HS.out _) q4 (by omega)
        go_wp2_with fail
        obtain ⟨HF, Hsz, v, q1, q2, q3, q4, q5⟩ := H.out
        refine (hP.out _ v ((Fr.refl Nix wr).alloc _) q1 q2 q3 q5).mono ?_
        rintro e w3 ⟨rfl, r0, v', r1, r2, r3, r4⟩
        have hw2 := F2.out.size
        have N : Hid (Fr Nix w w3 ∧ w2.heap.size < w3.heap.size ∧ ∃ v, w3.cell? ⟨w2.heap.size, 0, none⟩ = some v ∧ w3.frozen? ⟨w2.heap.size, 0, none⟩ = false ∧ OwnR w3 v (putL xs (l.take (k + 1))) ∧ New w v ∧ v.ownBlock ≠ some w2.heap.size) := by
          refine ⟨(HF.alloc _).then r3 (fun i hi h => ?_), ?_, v', r1, r0, r2, ?_, ?_⟩
          · rcases h with h | h
            · omega
            · have := q4 i h; omega
          · have := r3.size; simp at this; omega
          · intro i hi
            rcases r4 with h | ⟨i', h, h'⟩
            · exact q4 i (by rw [← h]; exact hi)
            · rw [h] at hi; cases hi; have := HF.size; simp at h'; omega
          · rcases r4 with h | ⟨i', h, h'⟩
            · rw [h]; exact q5
            · rw [h]; intro e; cases e; simp at h'; omega
        clear HF q1 q2 q3 q4 q5 r0 r1 r2 r3 r4 hP
        go_wp2_with fail
        go_roundg (l.length - (k + 1))
        case measure => omega
        case rel => exact ⟨k + 1, by omega, by omega, by go_num, N.out⟩
      · obtain rfl : k = l.length := by omega
        obtain ⟨HF, Hsz, v, q1, q2, q3, q4, q5⟩ := H.out
        rw [List.take_length] at q3
        obtain ⟨A5, n5, c5, e5⟩ := q3.form
        subst e5
        have hn5 : Hid (n5 = (putL xs l).length) := by obtain ⟨_, A', c', e, _⟩ := q3.rd; cases e; rfl
        have hbl := HBL.out.mono HF (fun h => h)
        have b0 : wr.cell? ⟨b, 0, none⟩ = some (.slice A n c) := hbl.cell 0
        have fb0 : wr.frozen? ⟨b, 0, none⟩ = false := hbl.frozen 0
        have HB := Lib.hid hbl
        have HF' := Lib.hid HF
        have Q3 := Lib.hid q3
        have Q4 := Lib.hid q4
        have hw2 := F2.out.size
        clear HF q3 q4 hbl
        by_cases h4 : 400 < n5
        · go_wp2_with fail
          go_ret
          have hE8 : putE xs l = 8 := by rw [hE.out, if_pos (by rw [← hn5.out]; exact h4)]
          refine ⟨by rw [hE8]; rfl, ?_, HF'.out.any, fun k hk => .inl ?_⟩
          · unfold putT
            rw [if_neg (by rw [hE8]; decide)]
            exact hT.out.mono HF'.out (fun _ _ h => h)
          · exact (FootT.same hT.out HF'.out (fun _ _ h => h)).1 hk
        · go_wp2_with fail
          go_ret
          have hE0 : putE xs l = 0 := by rw [hE.out, if_neg (by rw [← hn5.out]; exact h4)]
          have hnb : (Value.slice A5 n5 c5).ownBlock ≠ some b := fun e => by have := Q4.out b e; omega
          refine ⟨by rw [hE0]; rfl, ?_, ?_, ?_⟩
          · unfold putT
            rw [if_pos hE0]
            refine ⟨_, HB.out.set 0 _, ?_, hnb, putL_rising HS.out l, by have := hn5.out; omega⟩
            exact Q3.out.mono ((Fr.refl (fun k => k = b) _).setCell (p := ⟨b, 0, none⟩) (.inr rfl) _) (fun k hk h => hnb (by rw [hk, h]))
          · have hf : Fr (fun k => k = b) w wr := HF'.out.any
            exact hf.setCell (p := ⟨b, 0, none⟩) (.inr rfl) _
          · rintro k (rfl | ⟨v4, h8, h9⟩)
            · exact .inl (.inl rfl)
            · rw [cell_set _ _ _ _ b0] at h8
              cases h8
              exact .inr (Q4.out k h9)
end Go.Proofs.YtnilbpofmohfhaaGreat
