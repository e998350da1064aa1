/- The document's put of one row. -/
import Derived.Test.YtnilbpofmohfhaaGreatRefT
import Derived.Deep.RegionHeld3
import Derived.Deep.DrawnRows
namespace Go.Proofs.YtnilbpofmohfhaaGreat
open Go.RowKit
attribute [local go_sem ↓] Go.wp_at_zero Go.wp_at_succ

/-- append, at a step of a region that draws its order. -/
theorem step_append {P : Program} {w : World} {ops : Array Oper} {o : Oper} {a : Act} {K : Act → World → Prop} {Q : Exit → Act → World → Prop} {E : Prop} (hgd : o.guard = none) (s x : Operand) (t : TypeId)
    (ho : o.op = .call { callee := .builtin .append, args := #[s, x], argTypes := #[t, t] })
    (e : TypeId) (i : TypeInfo) (z : Value) (size bytes : Nat) (ht : P.underlying t = some (.slice e)) (hi : P.info? e = some i) (hz : i.zero = some z)
    (hsize : i.size = size) (hby : i.bytes = bytes) (hzs : z.cells.size = size) (hsz : 0 < size)
    (v : Value) (n : Nat) (xs : List Value) (hs : a.eval s = v) (hown : w.ownsRow 0 e size v n xs) (xv : Value) (hxv : a.eval x = xv) (m : Nat) (news : List Value) (hx : Src w size xv m news)
    (h63 : n + m ≤ maxLen) (hbytes : (n + m) * bytes ≤ 140737488355328)
    (h : ∀ v' w', w'.ownsRow 0 e size v' (n + m) (xs ++ news) → Fr (Foot v) w w' → (v'.ownBlock = v.ownBlock ∨ v'.ownBlock = some w.heap.size) → K (a.put o.dst v') w') :
    if Region.wanted o (yielded ops a.tmps) = true then Oper.wp P o a w K Q else E := by
  have hw : Region.wanted o (yielded ops a.tmps) = true := by simp [Region.wanted, hgd]
  rw [if_pos hw]
  obtain ⟨v', w', hr, h2, h3, h4⟩ := run_append_src (P := P) t o.type e i z size bytes ht hi hz hsize hby hzs hsz v n xs hown xv m news hx h63 hbytes
  unfold Oper.wp execOp
  simp only [ho, resolve, invoke, builtin, Sem.run_bind, Sem.run_pure, Result.andThen_ok, List.map_toArray, List.map_cons, List.map_nil, hs, hxv, hr]
  exact h v' w' h2 h3 h4

theorem pos_is {key : ByteArray} {xs : List Rw} (hs : Rising xs) (k : Nat) (hk : k ≤ xs.length) (h : ∀ j (hj : j < xs.length), j < k → ltB xs[j].k key = true) (hn : ∀ (hk : k < xs.length), ltB xs[k].k key = false) : posR key xs = k := by
  refine posR_eq key xs k hk h (fun j hj hkj => ?_)
  have h0 := hn (by omega)
  by_cases e : k = j
  · subst e; exact h0
  · exact lt_of_lt_not (rising_at hs (show k < j by omega) hj) h0

theorem src_zero (w : World) (sz : Nat) (A : Option Addr) (c : Nat) : Src w sz (.slice A 0 c) 0 [] := ⟨by simp, (fun u hu => by cases hu), A, c, rfl, (fun _ => rfl), (fun ad _ j u hu => by cases hu)⟩
theorem src_drop {w : World} {g c c' k : Nat} {xs : List Rw} (h : RdR w (.slice (some ⟨g, 0, none⟩) xs.length c) xs) (hk : k < xs.length) : Src w 2 (.slice (some ⟨g, k * 2, none⟩) (xs.length - k) c') (xs.length - k) (cellsR (xs.drop k)) := by
  have h1 := (h.cut k xs.length (Nat.le_of_lt hk) (Nat.le_refl _) (some ⟨g, k * 2, none⟩) c' (fun _ b off e => by cases e; rw [Nat.zero_add])).src
  rw [List.take_length, List.length_drop] at h1
  exact h1
theorem hat_new {w3 w6 : World} {v v' : Value} (hv : New w3 v) (hf : Fr Nix w3 w6) (hat : v'.ownBlock = v.ownBlock ∨ v'.ownBlock = some w6.heap.size) : New w3 v' := fun i hi => by
  rcases hat with e | e
  · rw [e] at hi; exact hv i hi
  · rw [e] at hi; cases hi; exact hf.size
theorem miss_at {x : Rw} {xs : List Rw} (hs : Rising xs) (k : Nat) (hk : k ≤ xs.length) (h : ∀ j (hj : j < xs.length), j < k → ltB xs[j].k x.k = true) (hn : ∀ (hk : k < xs.length), ltB xs[k].k x.k = false ∧ xs[k].k ≠ x.k) : putR x xs = xs.take k ++ [x] ++ xs.drop k := by
  have hp := pos_is hs k hk h (fun hk => (hn hk).1)
  unfold putR hitR
  rw [hp]
  by_cases hlt : k < xs.length
  · rw [List.getElem?_eq_getElem hlt]
    simp [(hn hlt).2]
  · rw [List.getElem?_eq_none (by omega)]
    simp
theorem miss_end {x : Rw} {xs : List Rw} (hs : Rising xs) (h : ∀ j (hj : j < xs.length), j < xs.length → ltB xs[j].k x.k = true) : putR x xs = xs ++ [x] := by
  rw [miss_at hs xs.length (Nat.le_refl _) h (fun hk => absurd hk (Nat.lt_irrefl _))]
  simp
theorem hit_is {x : Rw} {xs : List Rw} (hs : Rising xs) (k : Nat) (hk : k < xs.length) (h : ∀ j (hj : j < xs.length), j < k → ltB xs[j].k x.k = true) (he : xs[k].k = x.k) : putR x xs = xs.set k x := by
  have hp := pos_is hs k (Nat.le_of_lt hk) h (fun _ => by rw [he]; exact ltB_irrefl _)
  unfold putR hitR
  rw [hp, List.getElem?_eq_getElem hk]
  simp [he]

theorem RdR.at' {w : World} {g off n c : Nat} {xs : List Rw} (h : RdR w (.slice (some ⟨g, off, none⟩) n c) xs) (i : Nat) (hi : i < xs.length) : g < w.heap.size ∧ w.cell? ⟨g, off + i * 2, none⟩ = some (.string xs[i].k) ∧ w.cell? ⟨g, off + i * 2 + 1, none⟩ = some (.string xs[i].v) := by
  obtain ⟨_, A', c', e, hr⟩ := h
  simp only [Value.slice.injEq] at e
  obtain ⟨rfl, _, _⟩ := e
  rcases hr with rfl | ⟨b, o, e2, hb, hcc⟩
  · cases hi
  · simp only [Option.some.injEq, Addr.mk.injEq] at e2
    obtain ⟨rfl, rfl, _⟩ := e2
    exact ⟨hb, hcc i hi⟩

set_option maxRecDepth 100000 in
set_option maxHeartbeats 8000000 in
theorem refPut_some (w : World) (g c : Nat) (xs : List Rw) (x : Rw) (ho : OwnR w (.slice (some ⟨g, 0, none⟩) xs.length c) xs) (hcap : xs.length ≤ c) (hs : Rising xs) (hB : xs.length ≤ 1000000) :
    Calls Tryz.prog 48 #[.slice (some ⟨g, 0, none⟩) xs.length c, x.val] w fun e w' => ∃ v', e = .returned v' ∧ OwnR w' v' (putR x xs) ∧ New w v' ∧ Fr Nix w w' := by
  obtain ⟨i0, hi0, hz0, hz1, hz2⟩ := info_parts infoRow
  obtain ⟨xk, xv⟩ := x
  unfold Rw.val
  have HO := Lib.hid ho
  have HS := Lib.hid hs
  clear ho hs
  have F0 : Hid (Fr Nix w (w.alloc (.cells #[.string xk, .string xv] 48))) := (Fr.refl _ _).alloc _
  have B0 : Hid (Blk (w.alloc (.cells #[.string xk, .string xv] 48)) w.heap.size [.string xk, .string xv] 48) := Blk.new w [.string xk, .string xv] _
  go_enter Tryz.func48, Tryz.ntmps48
  go_wp2_with fail
  have hsz0 : (w.alloc (.cells #[.string xk, .string xv] 48)).heap.size = w.heap.size + 1 := by simp
  generalize w.alloc (.cells #[.string xk, .string xv] 48) = W0 at *
  have HR : Hid (RdR W0 (.slice (some ⟨g, 0, none⟩) xs.length c) xs) := HO.out.rd.nix F0.out
  go_loopg [5] xs.length (fun gg s5 wr => ∃ k : Nat, k ≤ xs.length ∧ xs.length - k ≤ gg ∧ s5 = .int .i64 k ∧ Hid (Fr Nix W0 wr ∧ ∀ j (hj : j < xs.length), j < k → ltB xs[j].k xk = true))
  case atStart => exact ⟨0, Nat.zero_le _, by omega, rfl, Fr.refl _ _, fun j _ h => absurd h (Nat.not_lt_zero _)⟩
  case round =>
    obtain ⟨k, hk, hg, rfl, H⟩ := hrel
    have b0 : wr.cell? ⟨w.heap.size, 0, none⟩ = some (.string xk) := H.out.1.cell' (B0.out.cell 0)
    have b1 : wr.cell? ⟨w.heap.size, 1, none⟩ = some (.string xv) := H.out.1.cell' (B0.out.cell 1)
    by_cases hlt : k < xs.length
    · have hlti : (k : Int) < (xs.length : Int) := by omega
      obtain ⟨hbg, x0, x1⟩ := (HR.out.nix H.out.1).at' k hlt
      simp only [Nat.zero_add] at x0 x1
      have hq := less_iff xs[k].k xk
      have b0' := Gt.cell b0
      have x0' := Gt.cell x0
      cases hl : ltB xs[k].k xk with
      | true =>
        have HN : Hid (∀ j (hj : j < xs.length), j < k + 1 → ltB xs[j].k xk = true) := fun j hj hjk => by
          by_cases e : j = k
          · subst e; exact hl
          · exact H.out.2 j hj (by omega)
        rw [hl] at hq
        clear hl x0 x1
        generalize xs[k] = y at x0' hq
        go_wp2_with fail
        refine wp_region_gt (by kernel_rfl) (by kernel_rfl) ?_
        repeat (go_big_quiet_step (fail))
        refine wpQuiet_nil ?_
        rintro w2 ⟨⟨_, h2⟩, rfl⟩
        go_wp2_with fail
        go_roundg (xs.length - (k + 1))
        case measure => omega
        case rel => exact ⟨k + 1, by omega, by omega, by go_num, H.out.1.nix h2, HN.out⟩
      | false =>
        rw [hl] at hq
        have hqe := toList_inj xs[k].k xk
        have x1' := Gt.cell x1
        have hq2 : (k : Int) ≤ (xs.length : Int) := by omega
        have hq3 : (xs.length : Int) ≤ (c : Int) := by omega
        have hq4 : k ≤ c := by omega
        have hq5 : (k : Int) ≤ (c : Int) := by omega
        by_cases he : xs[k].k = xk
        · rw [decide_eq_true he] at hqe
          have MA : Hid (putR ⟨xk, xv⟩ xs = xs.set k ⟨xk, xv⟩) := hit_is (x := ⟨xk, xv⟩) HS.out k hlt H.out.2 he
          clear he hl x0 x1
          generalize xs[k] = y at x0' x1' hq hqe
          go_wp2_with fail
          refine wp_region_gt (by kernel_rfl) (by kernel_rfl) ?_
          repeat (go_big_quiet_step (fail))
          refine wpQuiet_nil ?_
          rintro w2 ⟨⟨_, h2⟩, rfl⟩
          have b0'' := Gt.cell (h2.cell' b0)
          have x0'' := fun n : Gt w2 => x0' ⟨n.w, h2.trans n.fr⟩
          clear x0' x1' b0'
          go_wp2_with fail
          refine wp_region_gt (by kernel_rfl) (by kernel_rfl) ?_
          repeat (go_big_quiet_step (fail))
          refine wpQuiet_nil ?_
          rintro w3 ⟨⟨_, h3⟩, rfl⟩
          have F3 : Hid (Fr Nix wr w3) := h2.trans h3
          have b2 : w3.cell? ⟨w.heap.size, 0, none⟩ = some (.string xk) := F3.out.cell' b0
          have b3 : w3.cell? ⟨w.heap.size, 1, none⟩ = some (.string xv) := F3.out.cell' b1
          clear h2 h3 b0 b1 x0'' b0''
          go_wp2_with (at_builtin; refine wp_append rfl _ _ 29 rfl 48 i0 _ 2 32 Tryz.underlying29 hi0 hz0 hz1 hz2 rfl (by decide) _ 0 [] rfl ?c1 _ rfl xs.length (cellsR xs) ?c2 ?c3 ?c4 ?c5)
          case c1 => exact own_empty _ _ _
          case c2 => exact ((HR.out.nix (H.out.1.nix F3.out)).nix ((Fr.refl Nix w3).alloc (.cells #[] 48))).src
          case c3 => simp only [maxLen]; omega
          case c4 => omega
          case c5 =>
            intro v5 w5 ho5 hf5 hat5
            have N5 : OwnR w5 v5 xs := by
              show w5.ownsRow _ _ _ _ _ _
              simpa using ho5
            have F5 : Hid (Fr Nix w3 w5) := ((Fr.refl Nix w3).alloc _).then hf5 (fun i hi e => by simp [Foot, Value.ownBlock] at e; omega)
            have W5 : Hid (New w3 v5) := fun i hi => by
              rcases hat5 with e | e
              · rw [e] at hi; simp [Value.ownBlock] at hi; omega
              · rw [e] at hi; cases hi; simp
            have a0 : w5.cell? ⟨w.heap.size, 0, none⟩ = some (.string xk) := F5.out.cell' b2
            have a1 : w5.cell? ⟨w.heap.size, 1, none⟩ = some (.string xv) := F5.out.cell' b3
            clear ho5 hf5 hat5
            rcases N5.cases with ⟨_, h0⟩ | ⟨g5, cap5, cur, rfl, hbl, h1, h2, h3, h4⟩
            · rw [h0] at hlt; cases hlt
            have hi0' : k * 2 < cur.length := by omega
            have hi1' : k * 2 + 1 < cur.length := by omega
            have g0 : w5.cell? ⟨g5, k * 2, none⟩ = some cur[k * 2] := by rw [hbl.cell, List.getElem?_eq_getElem hi0']
            have g1 : w5.cell? ⟨g5, k * 2 + 1, none⟩ = some cur[k * 2 + 1] := by rw [hbl.cell, List.getElem?_eq_getElem hi1']
            have g2 : w5.frozen? ⟨g5, k * 2, none⟩ = false := hbl.frozen _
            have g3 : w5.frozen? ⟨g5, k * 2 + 1, none⟩ = false := hbl.frozen _
            generalize cur[k * 2] = z0 at g0
            generalize cur[k * 2 + 1] = z1 at g1
            have HB := Lib.hid (And.intro hbl (And.intro h1 (And.intro h2 (And.intro h3 h4))))
            clear hbl h1 h2 h3 h4 N5 hi0' hi1'
            go_wp2_with fail
            go_ret
            obtain ⟨hbl, h1, h2, h3, h4⟩ := HB.out
            have hg5 : w3.heap.size ≤ g5 := W5.out g5 rfl
            have hw3 : Fr Nix w w3 := F0.out.nix (H.out.1.nix F3.out)
            refine ⟨_, rfl, ?_, fun i hi => by cases hi; exact Nat.le_trans hw3.size hg5, hw3.nix ((F5.out.setCell (p := ⟨g5, k * 2, none⟩) (.inl hg5) _).setCell (p := ⟨g5, k * 2 + 1, none⟩) (.inl hg5) _)⟩
            rw [MA.out]
            have hb2 := (hbl.set (k * 2) (.string xk)).set (k * 2 + 1) (.string xv)
            have := OwnR.of_blk (xs := xs.set k ⟨xk, xv⟩) hb2 (by rw [List.length_set]; exact h1) h2 (by simp [h3]) (by
              rw [List.length_set, take_set_set _ _ _ _ _ (by omega), h4, cellsR_set])
            rw [List.length_set] at this
            exact this
        · rw [decide_eq_false he] at hqe
          have MA : Hid (putR ⟨xk, xv⟩ xs = xs.take k ++ [⟨xk, xv⟩] ++ xs.drop k) := miss_at (x := ⟨xk, xv⟩) HS.out k hk H.out.2 (fun _ => ⟨hl, he⟩)
          clear he hl x0 x1
          generalize xs[k] = y at x0' x1' hq hqe
          go_wp2_with fail
          refine wp_region_gt (by kernel_rfl) (by kernel_rfl) ?_
          repeat (go_big_quiet_step (fail))
          refine wpQuiet_nil ?_
          rintro w2 ⟨⟨_, h2⟩, rfl⟩
          have b0'' := Gt.cell (h2.cell' b0)
          have x0'' := fun n : Gt w2 => x0' ⟨n.w, h2.trans n.fr⟩
          clear x0' x1' b0'
          go_wp2_with fail
          refine wp_region_gt (by kernel_rfl) (by kernel_rfl) ?_
          repeat (go_big_quiet_step (fail))
          refine wpQuiet_nil ?_
          rintro w3 ⟨⟨_, h3⟩, rfl⟩
          have F3 : Hid (Fr Nix wr w3) := h2.trans h3
          have b2 : w3.cell? ⟨w.heap.size, 0, none⟩ = some (.string xk) := F3.out.cell' b0
          have b3 : w3.cell? ⟨w.heap.size, 1, none⟩ = some (.string xv) := F3.out.cell' b1
          clear h2 h3 b0 b1 x0'' b0''
          go_wp2_with (at_builtin; refine wp_append rfl _ _ 29 rfl 48 i0 _ 2 32 Tryz.underlying29 hi0 hz0 hz1 hz2 rfl (by decide) _ 0 [] rfl ?c1 _ rfl k (cellsR (xs.take k)) ?c2 ?c3 ?c4 ?c5)
          case c1 => exact own_empty _ _ _
          case c2 =>
            have h1 := ((HR.out.nix (H.out.1.nix F3.out)).nix ((Fr.refl Nix w3).alloc (.cells #[] 48))).cut 0 k (Nat.zero_le _) hk (some ⟨g, 0, none⟩) c (fun _ b off e => by cases e; rfl)
            have h2 := h1.src
            simp only [List.drop_zero, Nat.sub_zero, List.length_take] at h2
            rw [Nat.min_eq_left hk] at h2
            exact h2
          case c3 => simp only [maxLen]; omega
          case c4 => omega
          case c5 =>
            intro v5 w5 ho5 hf5 hat5
            have N5 : Hid (w5.ownsRow 0 48 2 v5 k (cellsR (xs.take k))) := by
              show w5.ownsRow _ _ _ _ _ _
              simpa using ho5
            have F5 : Hid (Fr Nix w3 w5) := ((Fr.refl Nix w3).alloc _).then hf5 (fun i hi e => by simp [Foot, Value.ownBlock] at e; omega)
            have W5 : Hid (New w3 v5) := fun i hi => by
              rcases hat5 with e | e
              · rw [e] at hi; simp [Value.ownBlock] at hi; omega
              · rw [e] at hi; cases hi; simp
            have a0 : w5.cell? ⟨w.heap.size, 0, none⟩ = some (.string xk) := F5.out.cell' b2
            have a1 : w5.cell? ⟨w.heap.size, 1, none⟩ = some (.string xv) := F5.out.cell' b3
            have HR3 : Hid (RdR w3 (.slice (some ⟨g, 0, none⟩) xs.length c) xs) := HR.out.nix (H.out.1.nix F3.out)
            have F6a : Hid (Fr Nix w3 (w5.alloc (.cells #[.string xk, .string xv] 48)).drew) := (F5.out.alloc _).drew
            have N6a : Hid ((w5.alloc (.cells #[.string xk, .string xv] 48)).drew.ownsRow 0 48 2 v5 k (cellsR (xs.take k))) := own_mono N5.out (((Fr.refl Nix _).alloc _).drew) (fun _ _ h => h)
            have S6a : Hid (Src (w5.alloc (.cells #[.string xk, .string xv] 48)).drew 2 (.slice (some ⟨w5.heap.size, 0, none⟩) 1 1) 1 (cellsR [⟨xk, xv⟩])) := ((rd_one w5 ⟨xk, xv⟩).nix ((Fr.refl Nix _).drew)).src
            clear ho5 hf5 hat5
            have hck : ¬ c = k := by omega
            go_wp2_with fail
            go_region_held3 (fun W => W.cell? ⟨w.heap.size, 0, none⟩ = some (.string xk) ∧ W.cell? ⟨w.heap.size, 1, none⟩ = some (.string xv)) (first | go_keep | (constructor; assumption; assumption))
              (first
                | (refine step_append (by rfl) (.tmp 51) (.tmp 53) 29 (by rfl) 48 i0 _ 2 32 Tryz.underlying29 hi0 hz0 hz1 hz2 rfl (by decide) v5 k (cellsR (xs.take k)) (by rfl) N6a.out _ (by rfl) 1 (cellsR [⟨xk, xv⟩]) S6a.out (by simp only [maxLen]; omega) (by omega) ?_; intro v6 w6 ho6 hf6 hat6; have F6 : Hid (Fr Nix w3 w6) := F6a.out.then hf6 (fun i hi e => by have := W5.out i e; omega); have d0 : w6.cell? ⟨w.heap.size, 0, none⟩ = some (.string xk) := F6.out.cell' b2; have d1 : w6.cell? ⟨w.heap.size, 1, none⟩ = some (.string xv) := F6.out.cell' b3; have N6 := Lib.hid ho6; have W6 : Hid (New w3 v6) := hat_new W5.out F6a.out hat6; clear ho6 hf6 hat6)
                | (refine step_append (by rfl) (.tmp 54) (.tmp 57) 29 (by rfl) 48 i0 _ 2 32 Tryz.underlying29 hi0 hz0 hz1 hz2 rfl (by decide) v6 (k + 1) _ (by rfl) N6.out _ (by rfl) (xs.length - k) (cellsR (xs.drop k)) (src_drop (HR3.out.nix F6.out) hlt) (by simp only [maxLen]; omega) (by omega) ?_; intro v7 w7 ho7 hf7 hat7; have F7 : Hid (Fr Nix w3 w7) := F6.out.then hf7 (fun i hi e => by have := W6.out i e; omega); have d2 : w7.cell? ⟨w.heap.size, 0, none⟩ = some (.string xk) := F7.out.cell' b2; have d3 : w7.cell? ⟨w.heap.size, 1, none⟩ = some (.string xv) := F7.out.cell' b3))
            all_goals
              go_wp2_with fail
              go_ret
              have hw3 : Fr Nix w w3 := F0.out.nix (H.out.1.nix F3.out)
              have W7 : New w3 v7 := hat_new W6.out F6.out hat7
              refine ⟨_, rfl, ?_, fun i hi => Nat.le_trans hw3.size (W7 i hi), hw3.nix F7.out⟩
              have hh := MA.out
              rw [hh]
              show w7.ownsRow _ _ _ _ _ _
              have hlen : (xs.take k ++ [(⟨xk, xv⟩ : Rw)] ++ xs.drop k).length = k + 1 + (xs.length - k) := by simp; omega
              rw [hlen, cellsR_append, cellsR_append]
              exact ho7
    · obtain rfl : k = xs.length := by omega
      have hnlt : ¬ (xs.length : Int) < (xs.length : Int) := by omega
      go_wp2_with fail
      refine wp_region_gt (by kernel_rfl) (by kernel_rfl) ?_
      repeat (go_big_quiet_step (fail))
      refine wpQuiet_nil ?_
      rintro w2 ⟨⟨_, h2⟩, rfl⟩
      go_wp2_with fail
      refine wp_region_gt (by kernel_rfl) (by kernel_rfl) ?_
      repeat (go_big_quiet_step (fail))
      refine wpQuiet_nil ?_
      rintro w3 ⟨⟨_, h3⟩, rfl⟩
      have F3 : Hid (Fr Nix wr w3) := h2.trans h3
      have b2 : w3.cell? ⟨w.heap.size, 0, none⟩ = some (.string xk) := F3.out.cell' b0
      have b3 : w3.cell? ⟨w.heap.size, 1, none⟩ = some (.string xv) := F3.out.cell' b1
      clear h2 h3 b0 b1
      go_wp2_with (at_builtin; refine wp_append rfl _ _ 29 rfl 48 i0 _ 2 32 Tryz.underlying29 hi0 hz0 hz1 hz2 rfl (by decide) _ 0 [] rfl ?c1 _ rfl xs.length (cellsR (xs.take xs.length)) ?c2 ?c3 ?c4 ?c5)
      case c1 => exact own_empty _ _ _
      case c2 =>
        have h1 := ((HR.out.nix (H.out.1.nix F3.out)).nix ((Fr.refl Nix w3).alloc (.cells #[] 48))).cut 0 xs.length (Nat.zero_le _) hk (some ⟨g, 0, none⟩) c (fun _ b off e => by cases e; rfl)
        have h2 := h1.src
        simp only [List.drop_zero, Nat.sub_zero, List.length_take] at h2
        rw [Nat.min_eq_left hk] at h2
        exact h2
      case c3 => simp only [maxLen]; omega
      case c4 => omega
      case c5 =>
        intro v5 w5 ho5 hf5 hat5
        have N5 : Hid (w5.ownsRow 0 48 2 v5 xs.length (cellsR (xs.take xs.length))) := by
          show w5.ownsRow _ _ _ _ _ _
          simpa using ho5
        have F5 : Hid (Fr Nix w3 w5) := ((Fr.refl Nix w3).alloc _).then hf5 (fun i hi e => by simp [Foot, Value.ownBlock] at e; omega)
        have W5 : Hid (New w3 v5) := fun i hi => by
          rcases hat5 with e | e
          · rw [e] at hi; simp [Value.ownBlock] at hi; omega
          · rw [e] at hi; cases hi; simp
        have a0 : w5.cell? ⟨w.heap.size, 0, none⟩ = some (.string xk) := F5.out.cell' b2
        have a1 : w5.cell? ⟨w.heap.size, 1, none⟩ = some (.string xv) := F5.out.cell' b3
        have HR3 : Hid (RdR w3 (.slice (some ⟨g, 0, none⟩) xs.length c) xs) := HR.out.nix (H.out.1.nix F3.out)
        have F6a : Hid (Fr Nix w3 (w5.alloc (.cells #[.string xk, .string xv] 48)).drew) := (F5.out.alloc _).drew
        have N6a : Hid ((w5.alloc (.cells #[.string xk, .string xv] 48)).drew.ownsRow 0 48 2 v5 xs.length (cellsR (xs.take xs.length))) := own_mono N5.out (((Fr.refl Nix _).alloc _).drew) (fun _ _ h => h)
        have S6a : Hid (Src (w5.alloc (.cells #[.string xk, .string xv] 48)).drew 2 (.slice (some ⟨w5.heap.size, 0, none⟩) 1 1) 1 (cellsR [⟨xk, xv⟩])) := ((rd_one w5 ⟨xk, xv⟩).nix ((Fr.refl Nix _).drew)).src
        clear ho5 hf5 hat5
        by_cases hck : c = xs.length
        · go_wp2_with fail
          go_region_held3 (fun W => W.cell? ⟨w.heap.size, 0, none⟩ = some (.string xk) ∧ W.cell? ⟨w.heap.size, 1, none⟩ = some (.string xv)) (first | go_keep | (constructor; assumption; assumption))
            (first
              | (refine step_append (by rfl) (.tmp 51) (.tmp 53) 29 (by rfl) 48 i0 _ 2 32 Tryz.underlying29 hi0 hz0 hz1 hz2 rfl (by decide) v5 xs.length (cellsR (xs.take xs.length)) (by rfl) N6a.out _ (by rfl) 1 (cellsR [⟨xk, xv⟩]) S6a.out (by simp only [maxLen]; omega) (by omega) ?_; intro v6 w6 ho6 hf6 hat6; have F6 : Hid (Fr Nix w3 w6) := F6a.out.then hf6 (fun i hi e => by have := W5.out i e; omega); have d0 : w6.cell? ⟨w.heap.size, 0, none⟩ = some (.string xk) := F6.out.cell' b2; have d1 : w6.cell? ⟨w.heap.size, 1, none⟩ = some (.string xv) := F6.out.cell' b3; have N6 := Lib.hid ho6; have W6 : Hid (New w3 v6) := hat_new W5.out F6a.out hat6; clear ho6 hf6 hat6)
              | (refine step_append (by rfl) (.tmp 54) (.tmp 57) 29 (by rfl) 48 i0 _ 2 32 Tryz.underlying29 hi0 hz0 hz1 hz2 rfl (by decide) v6 (xs.length + 1) _ (by rfl) N6.out _ (by rfl) 0 [] (src_zero _ _ _ _) (by simp only [maxLen]; omega) (by omega) ?_; intro v7 w7 ho7 hf7 hat7; have F7 : Hid (Fr Nix w3 w7) := F6.out.then hf7 (fun i hi e => by have := W6.out i e; omega); have d2 : w7.cell? ⟨w.heap.size, 0, none⟩ = some (.string xk) := F7.out.cell' b2; have d3 : w7.cell? ⟨w.heap.size, 1, none⟩ = some (.string xv) := F7.out.cell' b3))
          all_goals
            go_wp2_with fail
            go_ret
            have hw3 : Fr Nix w w3 := F0.out.nix (H.out.1.nix F3.out)
            have W7 : New w3 v7 := hat_new W6.out F6.out hat7
            refine ⟨_, rfl, ?_, fun i hi => Nat.le_trans hw3.size (W7 i hi), hw3.nix F7.out⟩
            have hh := miss_end (x := ⟨xk, xv⟩) HS.out H.out.2
            rw [hh]
            show w7.ownsRow _ _ _ _ _ _
            rw [List.take_length] at ho7
            rw [List.length_append, cellsR_append]
            simpa using ho7
        · go_wp2_with fail
          go_region_held3 (fun W => W.cell? ⟨w.heap.size, 0, none⟩ = some (.string xk) ∧ W.cell? ⟨w.heap.size, 1, none⟩ = some (.string xv)) (first | go_keep | (constructor; assumption; assumption))
            (first
              | (refine step_append (by rfl) (.tmp 51) (.tmp 53) 29 (by rfl) 48 i0 _ 2 32 Tryz.underlying29 hi0 hz0 hz1 hz2 rfl (by decide) v5 xs.length (cellsR (xs.take xs.length)) (by rfl) N6a.out _ (by rfl) 1 (cellsR [⟨xk, xv⟩]) S6a.out (by simp only [maxLen]; omega) (by omega) ?_; intro v6 w6 ho6 hf6 hat6; have F6 : Hid (Fr Nix w3 w6) := F6a.out.then hf6 (fun i hi e => by have := W5.out i e; omega); have d0 : w6.cell? ⟨w.heap.size, 0, none⟩ = some (.string xk) := F6.out.cell' b2; have d1 : w6.cell? ⟨w.heap.size, 1, none⟩ = some (.string xv) := F6.out.cell' b3; have N6 := Lib.hid ho6; have W6 : Hid (New w3 v6) := hat_new W5.out F6a.out hat6; clear ho6 hf6 hat6)
              | (refine step_append (by rfl) (.tmp 54) (.tmp 57) 29 (by rfl) 48 i0 _ 2 32 Tryz.underlying29 hi0 hz0 hz1 hz2 rfl (by decide) v6 (xs.length + 1) _ (by rfl) N6.out _ (by rfl) 0 [] (src_zero _ _ _ _) (by simp only [maxLen]; omega) (by omega) ?_; intro v7 w7 ho7 hf7 hat7; have F7 : Hid (Fr Nix w3 w7) := F6.out.then hf7 (fun i hi e => by have := W6.out i e; omega); have d2 : w7.cell? ⟨w.heap.size, 0, none⟩ = some (.string xk) := F7.out.cell' b2; have d3 : w7.cell? ⟨w.heap.size, 1, none⟩ = some (.string xv) := F7.out.cell' b3))
          all_goals
            go_wp2_with fail
            go_ret
            have hw3 : Fr Nix w w3 := F0.out.nix (H.out.1.nix F3.out)
            have W7 : New w3 v7 := hat_new W6.out F6.out hat7
            refine ⟨_, rfl, ?_, fun i hi => Nat.le_trans hw3.size (W7 i hi), hw3.nix F7.out⟩
            have hh := miss_end (x := ⟨xk, xv⟩) HS.out H.out.2
            rw [hh]
            show w7.ownsRow _ _ _ _ _ _
            rw [List.take_length] at ho7
            rw [List.length_append, cellsR_append]
            simpa using ho7

set_option maxRecDepth 100000 in
set_option maxHeartbeats 8000000 in
theorem refPut_nil (w : World) (x : Rw) :
    Calls Tryz.prog 48 #[.slice none 0 0, x.val] w fun e w' => ∃ v', e = .returned v' ∧ OwnR w' v' [x] ∧ New w v' ∧ Fr Nix w w' := by
  obtain ⟨i0, hi0, hz0, hz1, hz2⟩ := info_parts infoRow
  obtain ⟨xk, xv⟩ := x
  unfold Rw.val
  have F0 : Hid (Fr Nix w (w.alloc (.cells #[.string xk, .string xv] 48))) := (Fr.refl _ _).alloc _
  have B0 : Hid (Blk (w.alloc (.cells #[.string xk, .string xv] 48)) w.heap.size [.string xk, .string xv] 48) := Blk.new w [.string xk, .string xv] _
  go_enter Tryz.func48, Tryz.ntmps48
  go_wp2_with fail
  generalize w.alloc (.cells #[.string xk, .string xv] 48) = W0 at *
  go_loopg [5] 0 (fun gg s5 wr => s5 = .int .i64 0 ∧ Hid (wr = W0))
  case atStart => exact ⟨rfl, rfl⟩
  case round =>
    obtain ⟨rfl, H⟩ := hrel
    have hw := H.out
    subst hw
    have b0 : wr.cell? ⟨w.heap.size, 0, none⟩ = some (.string xk) := B0.out.cell 0
    have b1 : wr.cell? ⟨w.heap.size, 1, none⟩ = some (.string xv) := B0.out.cell 1
    go_wp2_with fail
    refine wp_region_gt (by kernel_rfl) (by kernel_rfl) ?_
    repeat (go_big_quiet_step (fail))
    refine wpQuiet_nil ?_
    rintro w2 ⟨⟨_, h2⟩, rfl⟩
    go_wp2_with fail
    refine wp_region_gt (by kernel_rfl) (by kernel_rfl) ?_
    repeat (go_big_quiet_step (fail))
    refine wpQuiet_nil ?_
    rintro w3 ⟨⟨_, h3⟩, rfl⟩
    have F3 : Hid (Fr Nix wr w3) := h2.trans h3
    have b2 : w3.cell? ⟨w.heap.size, 0, none⟩ = some (.string xk) := F3.out.cell' b0
    have b3 : w3.cell? ⟨w.heap.size, 1, none⟩ = some (.string xv) := F3.out.cell' b1
    clear h2 h3 b0 b1
    go_wp2_with (at_builtin; refine wp_append rfl _ _ 29 rfl 48 i0 _ 2 32 Tryz.underlying29 hi0 hz0 hz1 hz2 rfl (by decide) _ 0 [] rfl ?c1 _ rfl 0 [] ?c2 ?c3 ?c4 ?c5)
    case c1 => exact own_empty _ _ _
    case c2 => exact src_zero _ _ _ _
    case c3 => simp only [maxLen]; omega
    case c4 => omega
    case c5 =>
      intro v5 w5 ho5 hf5 hat5
      have N5 : Hid (w5.ownsRow 0 48 2 v5 0 []) := ho5
      have F5 : Hid (Fr Nix w3 w5) := ((Fr.refl Nix w3).alloc _).then hf5 (fun i hi e => by simp [Foot, Value.ownBlock] at e; omega)
      have W5 : Hid (New w3 v5) := fun i hi => by
        rcases hat5 with e | e
        · rw [e] at hi; simp [Value.ownBlock] at hi; omega
        · rw [e] at hi; cases hi; simp
      have a0 : w5.cell? ⟨w.heap.size, 0, none⟩ = some (.string xk) := F5.out.cell' b2
      have a1 : w5.cell? ⟨w.heap.size, 1, none⟩ = some (.string xv) := F5.out.cell' b3
      have F6a : Hid (Fr Nix w3 (w5.alloc (.cells #[.string xk, .string xv] 48)).drew) := (F5.out.alloc _).drew
      have N6a : Hid ((w5.alloc (.cells #[.string xk, .string xv] 48)).drew.ownsRow 0 48 2 v5 0 []) := own_mono N5.out (((Fr.refl Nix _).alloc _).drew) (fun _ _ h => h)
      have S6a : Hid (Src (w5.alloc (.cells #[.string xk, .string xv] 48)).drew 2 (.slice (some ⟨w5.heap.size, 0, none⟩) 1 1) 1 (cellsR [⟨xk, xv⟩])) := ((rd_one w5 ⟨xk, xv⟩).nix ((Fr.refl Nix _).drew)).src
      clear ho5 hf5 hat5
      go_wp2_with fail
      go_region_held3 (fun W => W.cell? ⟨w.heap.size, 0, none⟩ = some (.string xk) ∧ W.cell? ⟨w.heap.size, 1, none⟩ = some (.string xv)) (first | go_keep | (constructor; assumption; assumption))
        (first
          | (refine step_append (by rfl) (.tmp 51) (.tmp 53) 29 (by rfl) 48 i0 _ 2 32 Tryz.underlying29 hi0 hz0 hz1 hz2 rfl (by decide) v5 0 [] (by rfl) N6a.out _ (by rfl) 1 (cellsR [⟨xk, xv⟩]) S6a.out (by simp only [maxLen]; omega) (by omega) ?_; intro v6 w6 ho6 hf6 hat6; have F6 : Hid (Fr Nix w3 w6) := F6a.out.then hf6 (fun i hi e => by have := W5.out i e; omega); have d0 : w6.cell? ⟨w.heap.size, 0, none⟩ = some (.string xk) := F6.out.cell' b2; have d1 : w6.cell? ⟨w.heap.size, 1, none⟩ = some (.string xv) := F6.out.cell' b3; have N6 := Lib.hid ho6; have W6 : Hid (New w3 v6) := hat_new W5.out F6a.out hat6; clear ho6 hf6 hat6)
          | (refine step_append (by rfl) (.tmp 54) (.tmp 57) 29 (by rfl) 48 i0 _ 2 32 Tryz.underlying29 hi0 hz0 hz1 hz2 rfl (by decide) v6 (0 + 1) _ (by rfl) N6.out _ (by rfl) 0 [] (src_zero _ _ _ _) (by simp only [maxLen]; omega) (by omega) ?_; intro v7 w7 ho7 hf7 hat7; have F7 : Hid (Fr Nix w3 w7) := F6.out.then hf7 (fun i hi e => by have := W6.out i e; omega); have d2 : w7.cell? ⟨w.heap.size, 0, none⟩ = some (.string xk) := F7.out.cell' b2; have d3 : w7.cell? ⟨w.heap.size, 1, none⟩ = some (.string xv) := F7.out.cell' b3))
      all_goals
        go_wp2_with fail
        go_ret
        have hw3 : Fr Nix w w3 := F0.out.nix F3.out
        have W7 : New w3 v7 := hat_new W6.out F6.out hat7
        refine ⟨_, rfl, ?_, fun i hi => Nat.le_trans hw3.size (W7 i hi), hw3.nix F7.out⟩
        exact ho7

theorem refPut_any (w : World) (v : Value) (xs : List Rw) (x : Rw) (ho : OwnR w v xs) (hs : Rising xs) (hB : xs.length ≤ 1000000) :
    Calls Tryz.prog 48 #[v, x.val] w fun e w' => ∃ v', e = .returned v' ∧ OwnR w' v' (putR x xs) ∧ New w v' ∧ Fr Nix w w' := by
  rcases ho.cases with ⟨rfl, rfl⟩ | ⟨g, cap, cur, rfl, _, h1, _⟩
  · exact refPut_nil w x
  · exact refPut_some w g cap xs x ho h1 hs hB
end Go.Proofs.YtnilbpofmohfhaaGreat
