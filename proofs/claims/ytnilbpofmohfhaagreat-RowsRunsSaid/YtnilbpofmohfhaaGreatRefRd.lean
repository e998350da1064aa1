/- The document's reader: Get, Number, Row. -/
import Derived.Test.YtnilbpofmohfhaaGreatReadB
namespace Go.Proofs.YtnilbpofmohfhaaGreat
open Go.RowKit

theorem getV_suffix : ∀ (xs : List UInt8) (acc i n : Nat) (r : List UInt8), getV acc i xs = some (n, r) → ∃ p, p ≠ [] ∧ xs = p ++ r
  | [], acc, i, n, r, h => by cases h
  | x :: xs, acc, i, n, r, h => by
    rw [getV] at h
    split at h
    · cases h
    · split at h
      · split at h
        · cases h
        · cases h
          exact ⟨[x], by simp, rfl⟩
      · obtain ⟨p, hp, e⟩ := getV_suffix xs _ _ n r h
        exact ⟨x :: p, by simp, by rw [e]; rfl⟩
def getK (xs : List UInt8) : Option (Nat × List UInt8) → Nat × Nat
  | none => (0, 0)
  | some (n, r) => (n, xs.length - r.length)

set_option maxRecDepth 100000 in
set_option maxHeartbeats 4000000 in
theorem refGet_any (w : World) (v : Value) (xs : List UInt8) (hv : RdB w v xs) :
    Calls Tryz.prog 133 #[v] w fun e w' => e = .returned (.tuple #[.int .i64 (getK xs (getV 0 0 xs)).1, .int .i64 (getK xs (getV 0 0 xs)).2]) ∧ Fr Nix w w' := by
  obtain ⟨hm, A, c, rfl, hr⟩ := hv
  have HR := Lib.hid hr
  clear hr
  obtain ⟨G, hG⟩ : ∃ G, G = getV 0 0 xs := ⟨_, rfl⟩
  rw [← hG]
  have HG := Lib.hid hG
  clear hG
  obtain ⟨R, hR⟩ : ∃ R, R = getK xs G := ⟨_, rfl⟩
  rw [← hR]
  have HRR := Lib.hid hR
  clear hR
  go_enter Tryz.func133, Tryz.ntmps133
  go_wp2_with fail
  go_loopg [4, 5] xs.length (fun gg s4 s5 wr => ∃ (i acc : Nat), i ≤ 9 ∧ i ≤ xs.length ∧ xs.length - i ≤ gg ∧ acc < 128 ^ i ∧ s4 = .int .i64 (acc : Int) ∧ s5 = .int .i64 (i : Int) ∧ Hid (Fr Nix w wr ∧ G = getV acc i (xs.drop i)))
  case atStart => exact ⟨0, 0, by omega, by omega, by omega, by omega, rfl, rfl, Fr.refl _ _, HG.out⟩
  case round =>
    obtain ⟨i, acc, hi, hix, hg, hacc, rfl, rfl, H⟩ := hrel
    by_cases hgo : i < xs.length ∧ i < 9
    · obtain ⟨hlt, hi9⟩ := hgo
      rcases HR.out with h9 | ⟨bb, off, rfl, hbb, hcc⟩
      · rw [h9] at hlt; cases hlt
      have c0 := (H.out.1.cell (p := ⟨bb, off + i, none⟩) hbb (fun h => h)).trans (hcc i hlt)
      obtain ⟨x, hx0⟩ : ∃ x, x = xs[i] := ⟨_, rfl⟩
      rw [← hx0] at c0
      unfold by8 at c0
      have hA := and127u x
      obtain ⟨m, hm2⟩ : ∃ m : Nat, m = x.toNat % 128 := ⟨_, rfl⟩
      rw [← hm2] at hA
      have hm128 : m < 128 := by omega
      obtain ⟨s, hs⟩ : ∃ s : Nat, s = 7 * i := ⟨_, rfl⟩
      have hs63 : s < 63 := by omega
      have hmul : (7 : Int) * (i : Int) = (s : Int) := by omega
      obtain ⟨a, ha⟩ : ∃ a : Nat, a = acc + m * 128 ^ i := ⟨_, rfl⟩
      have hB : bits BinOp.or IntKind.i64 (acc : Int) (wrap64 ((m : Int) * 2 ^ s)) = (a : Int) := by rw [hs, ha]; exact or_join acc m i hacc hm128 (by omega)
      have HGV : Hid (G = if x.toNat < 128 then (if (0 < i ∧ x.toNat = 0) ∨ 4611686018427387903 < a then none else some (a, xs.drop (i + 1))) else getV a (i + 1) (xs.drop (i + 1))) := by
        show _ = _
        rw [H.out.2, List.drop_eq_getElem_cons hlt, getV, if_neg (by omega), ha, hm2, hx0]
      have HA := Lib.hid ha
      have HM2 := Lib.hid hm2
      have HS := Lib.hid hs
      have hx := x.toNat_lt
      clear hcc hm2 hx0 ha hs
      go_wp2_with fail
      all_goals (try simp only [beq_iff_eq, beq_eq_false_iff_ne, ne_eq] at *)
      all_goals first
        | (go_ret2
           have hRR : R = (0, 0) := by
             rw [HRR.out, HGV.out, if_pos (by omega), if_pos (by omega)]
             rfl
           rw [hRR]
           exact ⟨rfl, H.out.1⟩)
        | (go_ret2
           have hRR : R = (a, i + 1) := by
             rw [HRR.out, HGV.out, if_pos (by omega), if_neg (by omega)]
             show (a, xs.length - (xs.drop (i + 1)).length) = _
             rw [List.length_drop, show xs.length - (xs.length - (i + 1)) = i + 1 by omega]
           rw [hRR]
           exact ⟨rfl, H.out.1⟩)
        | (go_roundg (xs.length - (i + 1))
           case measure => omega
           case rel =>
             refine ⟨i + 1, a, by omega, by omega, by omega, ?_, rfl, rfl, H.out.1, ?_⟩
             · rw [HA.out, Nat.pow_succ]
               have := Nat.mul_le_mul_right (128 ^ i) (show m ≤ 127 by omega)
               omega
             · rw [HGV.out, if_neg (by omega)])
    · have hG0 : G = none := by
        rw [H.out.2]
        cases hd : xs.drop i with
        | nil => rfl
        | cons y r =>
          have : i < xs.length := by
            have := congrArg List.length hd
            simp at this
            omega
          rw [getV, if_pos (by omega)]
      have hgo' : ¬ i < xs.length ∨ ¬ i < 9 := by omega
      by_cases h1 : i < xs.length
      · have h9 : ¬ i < 9 := by omega
        go_wp2_with fail
        go_ret2
        rw [HRR.out, hG0]
        exact ⟨rfl, H.out.1⟩
      · go_wp2_with fail
        go_ret2
        rw [HRR.out, hG0]
        exact ⟨rfl, H.out.1⟩
/-- A reader in memory: block b; whether it went bad; what is left. -/
def IsRf (w : World) (b : Nat) (bad : Bool) (rest : List UInt8) : Prop :=
  ∃ v, Blk w b [v, .bool bad] 101 ∧ RdB w v rest ∧ v.ownBlock ≠ some b ∧ (bad = true → rest = []) ∧ v.capOk rest.length ∧ (∀ k, v.ownBlock = some k → k < w.heap.size)
def FootRf (w : World) (b : Nat) : Nat → Prop := fun k => k = b ∨ ∃ v, w.cell? ⟨b, 0, none⟩ = some v ∧ v.ownBlock = some k
theorem IsRf.mono {F : Nat → Prop} {w w' : World} {b : Nat} {bad : Bool} {xs : List UInt8} (h : IsRf w b bad xs) (hf : Fr F w w') (hF : ∀ k, FootRf w b k → ¬ F k) : IsRf w' b bad xs := by
  obtain ⟨v, hb, ho, hne, hx, hc, hl⟩ := h
  exact ⟨v, hb.mono hf (hF b (.inl rfl)), ho.mono hf (fun k hk => hF k (.inr ⟨v, hb.cell 0, hk⟩)), hne, hx, hc, fun k hk => Nat.lt_of_lt_of_le (hl k hk) hf.size⟩
theorem IsRf.flt {w : World} {b : Nat} {bad : Bool} {xs : List UInt8} (h : IsRf w b bad xs) {k : Nat} (hk : FootRf w b k) : k < w.heap.size := by
  obtain ⟨v, hb, _, _, _, _, hl⟩ := h
  rcases hk with rfl | ⟨v', h1, h2⟩
  · exact hb.lt
  · have : w.cell? ⟨b, 0, none⟩ = some v := hb.cell 0
    rw [this] at h1
    cases h1
    exact hl k h2
theorem IsRf.nix {w w' : World} {b : Nat} {bad : Bool} {xs : List UInt8} (h : IsRf w b bad xs) (hf : Fr Nix w w') : IsRf w' b bad xs := h.mono hf (fun _ _ h => h)
theorem IsRf.lt {w : World} {b : Nat} {bad : Bool} {xs : List UInt8} (h : IsRf w b bad xs) : b < w.heap.size := by obtain ⟨v, hb, _⟩ := h; exact hb.lt
theorem FootRf.same {F : Nat → Prop} {w w' : World} {b : Nat} {bad : Bool} {xs : List UInt8} (h : IsRf w b bad xs) (hf : Fr F w w') (hF : ¬ F b) {k : Nat} : FootRf w' b k ↔ FootRf w b k := by
  have hc : w'.cell? ⟨b, 0, none⟩ = w.cell? ⟨b, 0, none⟩ := hf.cell (p := ⟨b, 0, none⟩) h.lt hF
  unfold FootRf
  rw [hc]
/-- A step of the reader: what is left, whether it went bad; only its own block was written; it lies where it lay. -/
def StepF (w w' : World) (b : Nat) (bad : Bool) (rest : List UInt8) : Prop := IsRf w' b bad rest ∧ Fr (fun k => k = b) w w' ∧ ∀ k, FootRf w' b k → FootRf w b k
theorem StepF.refl {w : World} {b : Nat} {bad : Bool} {ys : List UInt8} (h : IsRf w b bad ys) : StepF w w b bad ys := ⟨h, Fr.refl _ _, fun _ h => h⟩
theorem StepF.trans {w w1 w2 : World} {b : Nat} {bad bad2 : Bool} {xs ys : List UInt8} (h : StepF w w1 b bad xs) (k : StepF w1 w2 b bad2 ys) : StepF w w2 b bad2 ys :=
  ⟨k.1, h.2.1.trans k.2.1, fun i hi => h.2.2 i (k.2.2 i hi)⟩
theorem StepF.nix {w w1 w2 : World} {b : Nat} {bad : Bool} {xs : List UInt8} (h : StepF w w1 b bad xs) (k : Fr Nix w1 w2) : StepF w w2 b bad xs :=
  h.trans ⟨h.1.nix k, k.any, fun _ hi => (FootRf.same h.1 k (fun h => h)).1 hi⟩


theorem failF_any (w : World) (b : Nat) (bad : Bool) (xs : List UInt8) (h : IsRf w b bad xs) :
    Calls Tryz.prog 134 #[.pointer (some ⟨b, 0, none⟩)] w fun e w' => e = .returned (.tuple #[]) ∧ StepF w w' b true [] := by
  obtain ⟨v, hb, hr, hne, hx, _⟩ := h
  have h1 : w.cell? ⟨b, 1, none⟩ = some (.bool bad) := hb.cell 1
  have h2 : w.cell? ⟨b, 0, none⟩ = some v := hb.cell 0
  have f1 : w.frozen? ⟨b, 1, none⟩ = false := hb.frozen 1
  have f2 : w.frozen? ⟨b, 0, none⟩ = false := hb.frozen 0
  have HB := Lib.hid hb
  clear hb hr hx
  go_enter Tryz.func134, Tryz.ntmps134
  go_wp2
  go_end0
  have hB2 := (HB.out.set 1 (.bool true)).set 0 (.slice none 0 0)
  refine ⟨rfl, ⟨_, hB2, Rd1.nil _ _ _ _, (fun h => by cases h), (fun _ => rfl), ⟨_, _, rfl, Nat.le_refl _⟩, (fun k hk => by cases hk)⟩, ((Fr.refl (fun k => k = b) w).setCell (p := ⟨b, 1, none⟩) (.inr rfl) _).setCell (p := ⟨b, 0, none⟩) (.inr rfl) _, ?_⟩
  rintro k (rfl | ⟨v, g1, g2⟩)
  · exact .inl rfl
  · have : _ = some (Value.slice none 0 0) := hB2.cell 0
    rw [this] at g1
    cases g1
    cases g2

theorem cutF {w : World} {b : Nat} {bad : Bool} {xs : List UInt8} {A : Option Addr} {c : Nat} (hB : Blk w b [.slice A xs.length c, .bool bad] 101) (hr : RdB w (.slice A xs.length c) xs) (hne : (Value.slice A xs.length c).ownBlock ≠ some b)
    (hx : bad = true → xs = []) (hol : ∀ k, (Value.slice A xs.length c).ownBlock = some k → k < w.heap.size) (n : Nat) (hle : n ≤ xs.length) (A2 : Option Addr) (c1 : Nat) (hA2 : A2.map (·.block) = A.map (·.block))
    (hA3 : n < xs.length → ∀ b off, A = some ⟨b, off, none⟩ → A2 = some ⟨b, off + n, none⟩) (hc1 : xs.length - n ≤ c1) : StepF w (w.setCell ⟨b, 0, none⟩ (.slice A2 (xs.length - n) c1)) b bad (xs.drop n) := by
  have h2 : w.cell? ⟨b, 0, none⟩ = some (.slice A xs.length c) := hB.cell 0
  have hfr : Fr (fun k => k = b) w (w.setCell ⟨b, 0, none⟩ (.slice A2 (xs.length - n) c1)) := (Fr.refl (fun k => k = b) w).setCell (p := ⟨b, 0, none⟩) (.inr rfl) _
  have hkb : ∀ k, (Value.slice A xs.length c).ownBlock = some k → ¬ k = b := fun k hk e => hne (by rw [hk, e])
  have hbl : ∀ m cc k, (Value.slice A2 m cc).ownBlock = some k → (Value.slice A xs.length c).ownBlock = some k := by
    intro m cc k hk
    rw [own_map] at hk ⊢
    rw [← hA2, hk]
  have hdl : (xs.drop n).length = xs.length - n := by simp
  have hB2 := hB.set 0 (.slice A2 (xs.length - n) c1)
  refine ⟨⟨_, hB2, ?_, ?_, ?_, ?_, ?_⟩, hfr, ?_⟩
  · have := (hr.cut n xs.length hle (Nat.le_refl _) A2 c1 (fun h b off e => hA3 h b off e)).mono hfr (fun k hk => hkb k (hbl _ _ k hk))
    rw [List.take_length] at this
    exact this
  · intro h
    exact hne (hbl _ _ b h)
  · intro hb
    rw [hx hb, List.drop_nil]
  · exact ⟨_, _, by rw [hdl], by rw [hdl]; exact hc1⟩
  · intro k hk
    rw [World.size_setCell]
    exact hol k (hbl _ _ k hk)
  · rintro k (rfl | ⟨v, g1, g2⟩)
    · exact .inl rfl
    · have : _ = some (Value.slice A2 (xs.length - n) c1) := hB2.cell 0
      rw [this] at g1
      cases g1
      exact .inr ⟨_, h2, hbl _ _ k g2⟩
theorem map_add (A : Option Addr) (n : Nat) : (A.map (fun x => x.add n)).map (·.block) = A.map (·.block) := by
  cases A with
  | none => rfl
  | some a => simp only [Option.map_some, Addr.add]; split <;> rfl

set_option maxRecDepth 100000 in
set_option maxHeartbeats 4000000 in
theorem numF_any (w : World) (b : Nat) (bad : Bool) (xs : List UInt8) (most : Nat) (h : IsRf w b bad xs) (hm : most ≤ 4611686018427387903) :
    Calls Tryz.prog 89 #[.pointer (some ⟨b, 0, none⟩), .int .i64 most] w fun e w' => e = .returned (.int .i64 (numR most bad xs).1) ∧ StepF w w' b (numR most bad xs).2.1 (numR most bad xs).2.2 := by
  have H0 := Lib.hid h
  obtain ⟨v, hb, hr, hne, hx, ⟨A, c, rfl, hcap⟩, hol⟩ := h
  have h1 : w.cell? ⟨b, 1, none⟩ = some (.bool bad) := hb.cell 1
  have h2 : w.cell? ⟨b, 0, none⟩ = some (.slice A xs.length c) := hb.cell 0
  cases bad with
  | true =>
    clear hb hr hne hx hol
    go_enter Tryz.func89, Tryz.ntmps89
    go_wp2_with fail
    go_ret
    exact ⟨rfl, StepF.refl H0.out⟩
  | false =>
    have HG := Lib.hid (refGet_any w _ xs hr)
    obtain ⟨R, hR⟩ : ∃ R, R = numM most (getV 0 0 xs) := ⟨_, rfl⟩
    show Calls _ _ _ _ fun e w' => e = .returned (.int .i64 (numM most (getV 0 0 xs)).1) ∧ StepF w w' b (numM most (getV 0 0 xs)).2.1 (numM most (getV 0 0 xs)).2.2
    rw [← hR]
    cases hg : getV 0 0 xs with
    | none =>
      rw [hg] at HG hR
      have HR : Hid (R = (0, true, [])) := hR
      clear hR hg hb hr hne hx hol
      unfold getK at HG
      go_enter Tryz.func89, Tryz.ntmps89
      go_wp2_with fail
      refine HG.out.mono ?_
      rintro e w1 ⟨rfl, h3⟩
      have S1 := Lib.hid ((StepF.refl H0.out).nix h3)
      clear h3 HG
      go_wp2_with fail
      refine (failF_any w1 b false xs S1.out.1).mono ?_
      rintro e w2 ⟨rfl, h4⟩
      have S2 := Lib.hid (S1.out.trans h4)
      clear h4
      go_wp2_with fail
      go_ret
      rw [HR.out]
      exact ⟨rfl, S2.out⟩
    | some q =>
      obtain ⟨n, r⟩ := q
      obtain ⟨p, hp, hpr⟩ := getV_suffix xs 0 0 n r hg
      have hnle := (getV_le xs 0 0 n r hg).1
      have hpl : 0 < p.length := List.length_pos_iff.2 hp
      have hk : xs.length - r.length = p.length := by rw [hpr, List.length_append]; omega
      have hdr : xs.drop p.length = r := by rw [hpr]; simp
      have hle : p.length ≤ xs.length := by rw [hpr, List.length_append]; omega
      rw [hg] at HG hR
      unfold getK at HG
      dsimp only at HG
      rw [hk] at HG
      generalize p.length = k at *
      have hk0 : ¬ (k : Int) = 0 := by omega
      by_cases hmn : most < n
      · have HR : Hid (R = (0, true, [])) := by show _ = _; rw [hR, numM, if_pos hmn]
        have hmn' : (most : Int) < (n : Int) := by omega
        clear hR hg hb hr hne hx hol hpr hdr hk
        go_enter Tryz.func89, Tryz.ntmps89
        go_wp2_with fail
        refine HG.out.mono ?_
        rintro e w1 ⟨rfl, h3⟩
        have S1 := Lib.hid ((StepF.refl H0.out).nix h3)
        clear h3 HG
        go_wp2_with fail
        refine (failF_any w1 b false xs S1.out.1).mono ?_
        rintro e w2 ⟨rfl, h4⟩
        have S2 := Lib.hid (S1.out.trans h4)
        clear h4
        go_wp2_with fail
        go_ret
        rw [HR.out]
        exact ⟨rfl, S2.out⟩
      · have HR : Hid (R = (n, false, r)) := by show _ = _; rw [hR, numM, if_neg hmn]
        have hmn' : ¬ (most : Int) < (n : Int) := by omega
        have HB := Lib.hid hb
        have HRD := Lib.hid hr
        have HNE := Lib.hid hne
        have HOL := Lib.hid hol
        have HDR := Lib.hid hdr
        have hli : (k : Int) ≤ (xs.length : Int) := by omega
        have hlc : (k : Int) ≤ (c : Int) := by omega
        clear hR hg hb hr hne hx hol hpr hdr hk
        go_enter Tryz.func89, Tryz.ntmps89
        go_wp2_with fail
        refine HG.out.mono ?_
        rintro e w1 ⟨rfl, h3⟩
        have S1 := Lib.hid ((StepF.refl H0.out).nix h3)
        have B1 : Hid (Blk w1 b [.slice A xs.length c, .bool false] 101) := HB.out.mono h3 (fun h => h)
        have c0 : w1.cell? ⟨b, 0, none⟩ = some (.slice A xs.length c) := B1.out.cell 0
        have f0 : w1.frozen? ⟨b, 0, none⟩ = false := B1.out.frozen 0
        have KEY : Hid (∀ A2 c1, _ → _ → _ → StepF w1 (w1.setCell ⟨b, 0, none⟩ (.slice A2 (xs.length - k) c1)) b false (xs.drop k)) := fun A2 c1 => cutF B1.out (HRD.out.nix h3) HNE.out (fun h => by cases h) (fun i hi => Nat.lt_of_lt_of_le (HOL.out i hi) h3.size) k hle A2 c1
        clear h3 HG
        by_cases hcn : c = k
        · go_wp2_with fail
          go_ret
          rw [HR.out, ← HDR.out]
          exact ⟨rfl, S1.out.trans (KEY.out A 0 rfl (fun h => by omega) (by omega))⟩
        · go_wp2_with fail
          go_ret
          rw [HR.out, ← HDR.out]
          exact ⟨rfl, S1.out.trans (KEY.out (A.map (fun x => x.add k)) (c - k) (map_add A k) (fun h b' off e => by rw [e, Option.map_some, addr_add]) (by omega))⟩

theorem bad_sameF {bad : Bool} {xs : List UInt8} {w : World} {b : Nat} (h : IsRf w b bad xs) : w.cell? ⟨b, 1, none⟩ = some (.bool bad) := by
  obtain ⟨v, hb, _⟩ := h
  exact hb.cell 1
set_option maxRecDepth 100000 in
set_option maxHeartbeats 4000000 in
theorem rowF_any (w : World) (b : Nat) (bad : Bool) (xs : List UInt8) (most : Nat) (h : IsRf w b bad xs) (hm : most ≤ 4611686018427387903) (hB : xs.length ≤ 1000000000) (hfl : ∀ k, FootRf w b k → k < w.heap.size) :
    Calls Tryz.prog 90 #[.pointer (some ⟨b, 0, none⟩), .int .i64 most] w fun e w' => ∃ v, e = .returned v ∧ RdB w' v (rowRd most bad xs).1 ∧ New w v ∧ StepF w w' b (rowRd most bad xs).2.1 (rowRd most bad xs).2.2 := by
  obtain ⟨i0, hi, hz0, hz1, hz2⟩ := info_parts infoB
  have HN := Lib.hid (numF_any w b bad xs most h hm)
  have hle := numR_le most bad xs
  obtain ⟨Q, hQ⟩ : ∃ Q, Q = numR most bad xs := ⟨_, rfl⟩
  have HR : Hid (rowRd most bad xs = if Q.2.1 then ([], true, Q.2.2) else if Q.1 ≤ Q.2.2.length then (Q.2.2.take Q.1, false, Q.2.2.drop Q.1) else ([], true, [])) := by rw [hQ]; rfl
  rw [← hQ] at HN hle
  obtain ⟨RR, hRR⟩ : ∃ R, R = rowRd most bad xs := ⟨_, rfl⟩
  rw [← hRR] at HR ⊢
  have HFL := Lib.hid hfl
  have hbl := h.lt
  clear hQ hRR h hfl
  obtain ⟨n, bd, rest⟩ := Q
  dsimp only at HN hle HR
  have hn := hle.1
  have hrl : rest.length ≤ 1000000000 := by omega
  clear hle
  cases bd with
  | true =>
    have HR2 : Hid (RR = ([], true, rest)) := HR.out
    clear HR
    go_enter Tryz.func90, Tryz.ntmps90
    go_wp2_with fail
    refine HN.out.mono ?_
    rintro e w1 ⟨rfl, h1⟩
    have S1 := Lib.hid h1
    have c1 := bad_sameF h1.1
    clear h1 HN
    go_wp2_with fail
    go_ret
    rw [HR2.out]
    exact ⟨_, rfl, Rd1.nil _ _ _ _, (fun k hk => by cases hk), S1.out⟩
  | false =>
    have HR2 : Hid (RR = if n ≤ rest.length then (rest.take n, false, rest.drop n) else ([], true, [])) := HR.out
    clear HR
    by_cases hnl : n ≤ rest.length
    · have HR3 : Hid (RR = (rest.take n, false, rest.drop n)) := by show _ = _; rw [HR2.out, if_pos hnl]
      have hli : (n : Int) ≤ (rest.length : Int) := by omega
      clear HR2
      go_enter Tryz.func90, Tryz.ntmps90
      go_wp2_with fail
      refine HN.out.mono ?_
      rintro e w1 ⟨rfl, h1⟩
      have S1 := Lib.hid h1
      clear h1 HN
      obtain ⟨v, hb, hr, hne, hx, ⟨A, c, rfl, hcap⟩, hol⟩ := S1.out.1
      have c1 : w1.cell? ⟨b, 1, none⟩ = some (.bool false) := hb.cell 1
      have c0 : w1.cell? ⟨b, 0, none⟩ = some (.slice A rest.length c) := hb.cell 0
      have hlc : (n : Int) ≤ (c : Int) := by omega
      have htl : (rest.take n).length = n := by simp; omega
      have HT : Hid (∀ W cc, Fr Nix w1 W → Src W 1 (.slice A n cc) n ((rest.take n).map by8)) := fun W cc hW => by
        have h1 := (hr.cut 0 n (Nat.zero_le _) hnl A cc (fun _ b off e => e)).nix hW
        have h2 := Rd1.src by8_one h1
        simp only [List.drop_zero] at h2
        rw [htl] at h2
        exact h2
      have HB := Lib.hid hb
      have HRD := Lib.hid hr
      have HNE := Lib.hid hne
      have HOL := Lib.hid hol
      have hbl1 := hb.lt
      clear hb hr hne hx hol
      have hz := S1.out.2.1.size
      by_cases hcn : c = n
      · go_wp2_with (at_builtin; refine wp_append rfl _ _ 50 rfl 5 i0 _ 1 1 Tryz.underlying50 hi hz0 hz1 hz2 rfl (by decide) _ 0 [] rfl ?c1 _ rfl n ((rest.take n).map by8) ?c2 ?c3 ?c4 ?c5)
        case c1 => exact own_empty w1 _ _
        case c2 => exact HT.out _ _ ((Fr.refl _ _).alloc _)
        case c3 => simp only [maxLen]; omega
        case c4 => omega
        case c5 =>
          intro v' w' ho' hf hat
          have F2 : Hid (Fr Nix w1 w') := ((Fr.refl Nix w1).alloc _).then hf (fun i hi h => by simp [Foot, Value.ownBlock] at h; omega)
          have N2 : Hid (∀ k, v'.ownBlock = some k → w1.heap.size ≤ k) := fun i hi => by
            rcases hat with e | e
            · rw [e] at hi; simp [Value.ownBlock] at hi; omega
            · rw [e] at hi; cases hi; simp
          have O2 : Hid (OwnB w' v' (rest.take n)) := by
            show w'.ownsRow _ _ _ _ _ _
            rw [htl]
            simpa using ho'
          clear ho' hf hat
          have B2 : Hid (Blk w' b [.slice A rest.length c, .bool false] 101) := HB.out.mono F2.out (fun h => h)
          have d0 : w'.cell? ⟨b, 0, none⟩ = some (.slice A rest.length c) := B2.out.cell 0
          have f0 : w'.frozen? ⟨b, 0, none⟩ = false := B2.out.frozen 0
          have KEY : Hid (∀ A2 c1, _ → _ → _ → StepF w' (w'.setCell ⟨b, 0, none⟩ (.slice A2 (rest.length - n) c1)) b false (rest.drop n)) := fun A2 c1 => cutF B2.out (HRD.out.nix F2.out) HNE.out (fun h => by cases h) (fun i hi => Nat.lt_of_lt_of_le (HOL.out i hi) F2.out.size) n hnl A2 c1
          obtain ⟨A3, n3, c3, e3⟩ := O2.out.rd.form'
          subst e3
          have hbw' : ∀ k, (Value.slice A3 n3 c3).ownBlock = some k → ¬ k = b := fun k hk e => by have := N2.out k hk; omega
          go_wp2_with fail
          go_ret
          rw [HR3.out]
          refine ⟨_, rfl, O2.out.rd.mono ((Fr.refl (fun k => k = b) _).setCell (p := ⟨b, 0, none⟩) (.inr rfl) _) hbw', fun k hk => Nat.le_trans hz (N2.out k hk), (S1.out.nix F2.out).trans (KEY.out A 0 rfl (fun h => by omega) (by omega))⟩
      · go_wp2_with (at_builtin; refine wp_append rfl _ _ 50 rfl 5 i0 _ 1 1 Tryz.underlying50 hi hz0 hz1 hz2 rfl (by decide) _ 0 [] rfl ?c1 _ rfl n ((rest.take n).map by8) ?c2 ?c3 ?c4 ?c5)
        case c1 => exact own_empty w1 _ _
        case c2 => exact HT.out _ _ ((Fr.refl _ _).alloc _)
        case c3 => simp only [maxLen]; omega
        case c4 => omega
        case c5 =>
          intro v' w' ho' hf hat
          have F2 : Hid (Fr Nix w1 w') := ((Fr.refl Nix w1).alloc _).then hf (fun i hi h => by simp [Foot, Value.ownBlock] at h; omega)
          have N2 : Hid (∀ k, v'.ownBlock = some k → w1.heap.size ≤ k) := fun i hi => by
            rcases hat with e | e
            · rw [e] at hi; simp [Value.ownBlock] at hi; omega
            · rw [e] at hi; cases hi; simp
          have O2 : Hid (OwnB w' v' (rest.take n)) := by
            show w'.ownsRow _ _ _ _ _ _
            rw [htl]
            simpa using ho'
          clear ho' hf hat
          have B2 : Hid (Blk w' b [.slice A rest.length c, .bool false] 101) := HB.out.mono F2.out (fun h => h)
          have d0 : w'.cell? ⟨b, 0, none⟩ = some (.slice A rest.length c) := B2.out.cell 0
          have f0 : w'.frozen? ⟨b, 0, none⟩ = false := B2.out.frozen 0
          have KEY : Hid (∀ A2 c1, _ → _ → _ → StepF w' (w'.setCell ⟨b, 0, none⟩ (.slice A2 (rest.length - n) c1)) b false (rest.drop n)) := fun A2 c1 => cutF B2.out (HRD.out.nix F2.out) HNE.out (fun h => by cases h) (fun i hi => Nat.lt_of_lt_of_le (HOL.out i hi) F2.out.size) n hnl A2 c1
          obtain ⟨A3, n3, c3, e3⟩ := O2.out.rd.form'
          subst e3
          have hbw' : ∀ k, (Value.slice A3 n3 c3).ownBlock = some k → ¬ k = b := fun k hk e => by have := N2.out k hk; omega
          go_wp2_with fail
          go_ret
          rw [HR3.out]
          refine ⟨_, rfl, O2.out.rd.mono ((Fr.refl (fun k => k = b) _).setCell (p := ⟨b, 0, none⟩) (.inr rfl) _) hbw', fun k hk => Nat.le_trans hz (N2.out k hk), (S1.out.nix F2.out).trans (KEY.out (A.map (fun x => x.add n)) (c - n) (map_add A n) (fun h b' off e => by rw [e, Option.map_some, addr_add]) (by omega))⟩
    · have HR3 : Hid (RR = ([], true, [])) := by show _ = _; rw [HR2.out, if_neg hnl]
      have hli : (rest.length : Int) < (n : Int) := by omega
      clear HR2
      go_enter Tryz.func90, Tryz.ntmps90
      go_wp2_with fail
      refine HN.out.mono ?_
      rintro e w1 ⟨rfl, h1⟩
      have S1 := Lib.hid h1
      clear h1 HN
      obtain ⟨v, hb, _, _, _, ⟨A, c, rfl, hcap⟩, _⟩ := S1.out.1
      have c1 : w1.cell? ⟨b, 1, none⟩ = some (.bool false) := hb.cell 1
      have c0 : w1.cell? ⟨b, 0, none⟩ = some (.slice A rest.length c) := hb.cell 0
      clear hb
      go_wp2_with fail
      refine (failF_any w1 b false rest S1.out.1).mono ?_
      rintro e w2 ⟨rfl, h4⟩
      have S2 := Lib.hid (S1.out.trans h4)
      clear h4
      go_wp2_with fail
      go_ret
      rw [HR3.out]
      exact ⟨_, rfl, Rd1.nil _ _ _ _, (fun k hk => by cases hk), S2.out⟩
end Go.Proofs.YtnilbpofmohfhaaGreat
