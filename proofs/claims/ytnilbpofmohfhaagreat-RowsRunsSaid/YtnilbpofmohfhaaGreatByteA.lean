/- Slices whose elements are one cell (bytes, numbers, texts), read and owned; the clone of bytes; SameBytes. -/
import Derived.Test.YtnilbpofmohfhaaGreatRowsB
import Derived.Laws.IdiomStrings
namespace Go.Proofs.YtnilbpofmohfhaaGreat
open Go.RowKit

section
variable {α : Type}
/-- The slice value reads as xs, each element one cell. -/
def Rd1 (f : α → Value) (w : World) (v : Value) (xs : List α) : Prop :=
  xs.length ≤ 9223372036854775807 ∧ ∃ A cap, v = .slice A xs.length cap ∧ (xs = [] ∨ ∃ b off, A = some ⟨b, off, none⟩ ∧ b < w.heap.size ∧ ∀ i (h : i < xs.length), w.cell? ⟨b, off + i, none⟩ = some (f xs[i]))
theorem Rd1.mono {f : α → Value} {F : Nat → Prop} {w w' : World} {v : Value} {xs : List α} (h : Rd1 f w v xs) (hf : Fr F w w') (hF : ∀ k, v.ownBlock = some k → ¬ F k) : Rd1 f w' v xs := by
  obtain ⟨h0, A, cap, rfl, h⟩ := h
  refine ⟨h0, A, cap, rfl, ?_⟩
  rcases h with h | ⟨b, off, rfl, hb, hc⟩
  · exact .inl h
  · exact .inr ⟨b, off, rfl, Nat.lt_of_lt_of_le hb hf.size, fun i hi => (hf.cell (p := ⟨b, off + i, none⟩) hb (hF b rfl)).trans (hc i hi)⟩
theorem Rd1.nix {f : α → Value} {w w' : World} {v : Value} {xs : List α} (h : Rd1 f w v xs) (hf : Fr Nix w w') : Rd1 f w' v xs := h.mono hf (fun _ _ h => h)
theorem Rd1.form {f : α → Value} {w : World} {v : Value} {xs : List α} (h : Rd1 f w v xs) : ∃ A c, v = .slice A xs.length c := by
  obtain ⟨_, A, c, e, _⟩ := h
  exact ⟨A, c, e⟩
theorem Rd1.form' {f : α → Value} {w : World} {v : Value} {xs : List α} (h : Rd1 f w v xs) : ∃ A n c, v = .slice A n c := by
  obtain ⟨_, A, c, e, _⟩ := h
  exact ⟨A, _, c, e⟩
theorem Rd1.nil (f : α → Value) (w : World) (A : Option Addr) (c : Nat) : Rd1 f w (.slice A 0 c) [] := ⟨by simp, A, c, rfl, .inl rfl⟩
theorem Rd1.src {f : α → Value} (h1 : ∀ x, (f x).oneCell' = true) {w : World} {v : Value} {xs : List α} (h : Rd1 f w v xs) : Src w 1 v xs.length (xs.map f) := by
  obtain ⟨hm, A, cap, rfl, h⟩ := h
  refine ⟨by simp, fun u hu => by obtain ⟨x, _, rfl⟩ := List.mem_map.1 hu; exact h1 x, ?_⟩
  rcases h with rfl | ⟨b, off, rfl, hb, hc⟩
  · exact ⟨A, cap, rfl, fun _ => rfl, fun ad _ j u hu => by cases hu⟩
  · refine ⟨_, cap, rfl, (fun h => by cases h), fun ad h j u hu => ?_⟩
    cases h
    obtain ⟨hj, e⟩ := List.getElem?_eq_some_iff.1 hu
    have hj' : j < xs.length := by simpa using hj
    rw [addr_add, hc j hj', ← e, List.getElem_map]
/-- The part from i to j. -/
theorem Rd1.cut {f : α → Value} {w : World} {A : Option Addr} {c : Nat} {xs : List α} (h : Rd1 f w (.slice A xs.length c) xs) (i j : Nat) (hij : i ≤ j) (hj : j ≤ xs.length) (A' : Option Addr) (c' : Nat)
    (hA : i < j → ∀ b off, A = some ⟨b, off, none⟩ → A' = some ⟨b, off + i, none⟩) : Rd1 f w (.slice A' (j - i) c') ((xs.take j).drop i) := by
  obtain ⟨hm, A0, c0, e, h⟩ := h
  cases e
  have hlen : ((xs.take j).drop i).length = j - i := by simp; omega
  refine ⟨by rw [hlen]; omega, A', c', by rw [hlen], ?_⟩
  by_cases hlt : i < j
  · right
    rcases h with h | ⟨b, off, rfl, hb, hc⟩
    · subst h; simp at hj; omega
    · refine ⟨b, off + i, hA hlt b off rfl, hb, fun k hk => ?_⟩
      rw [hlen] at hk
      have := hc (i + k) (by omega)
      rw [← Nat.add_assoc] at this
      rw [this]
      simp
  · left
    exact List.eq_nil_of_length_eq_zero (by omega)

/-- Elements that a call owns. -/
def Own1 (T : TypeId) (f : α → Value) (w : World) (v : Value) (xs : List α) : Prop := w.ownsRow 0 T 1 v xs.length (xs.map f)
theorem Own1.mono {T : TypeId} {f : α → Value} {F : Nat → Prop} {w w' : World} {v : Value} {xs : List α} (h : Own1 T f w v xs) (hf : Fr F w w') (hF : ∀ k, v.ownBlock = some k → ¬ F k) : Own1 T f w' v xs := own_mono h hf hF
theorem Own1.rd {T : TypeId} {f : α → Value} {w : World} {v : Value} {xs : List α} (h : Own1 T f w v xs) : Rd1 f w v xs := by
  have hc := fun g hg => World.ownsRow.cells h (g := g) hg
  obtain ⟨hl, h2⟩ := h
  rcases h2 with ⟨rfl, h0⟩ | ⟨g, cap, cur, rfl, hb, hh, hn, hm, r⟩
  · have : xs = [] := List.eq_nil_of_length_eq_zero h0
    subst this
    exact Rd1.nil _ _ _ _
  · refine ⟨by simp only [maxLen] at hm; omega, _, cap, rfl, .inr ⟨g, 0, rfl, (Array.getElem?_eq_some_iff.1 hh).1, fun i hi => ?_⟩⟩
    have := hc g rfl i (f xs[i]) (by rw [List.getElem?_map, List.getElem?_eq_getElem hi]; rfl)
    rwa [addr_add] at this
theorem Own1.nil (T : TypeId) (f : α → Value) (w : World) : Own1 T f w (.slice none 0 0) ([] : List α) := World.ownsRow_nil _ _ _ _
theorem Own1.of_blk {T : TypeId} {f : α → Value} {w : World} {xs : List α} {g cap : Nat} {cur : List Value} (hb : Blk w g cur T) (h1 : xs.length ≤ cap) (h2 : cap ≤ maxLen) (h3 : cur.length = cap) (h4 : cur.take xs.length = xs.map f) :
    Own1 T f w (.slice (some ⟨g, 0, none⟩) xs.length cap) xs :=
  ⟨by simp, .inr ⟨g, cap, cur.toArray, rfl, Nat.zero_le _, hb, h1, h2, by simpa using h3, by simpa using h4⟩⟩
theorem Own1.lit {T : TypeId} {f : α → Value} (w : World) (xs : List α) (hl : xs.length ≤ 1000) : Own1 T f (w.alloc (.cells (xs.map f).toArray T)) (.slice (some ⟨w.heap.size, 0, none⟩) xs.length xs.length) xs :=
  Own1.of_blk (Blk.new w (xs.map f) T) (Nat.le_refl _) (by simp only [maxLen]; omega) (by simp) (by rw [List.take_of_length_le (by simp)])
theorem Own1.cases {T : TypeId} {f : α → Value} {w : World} {v : Value} {xs : List α} (h : Own1 T f w v xs) : (v = .slice none 0 0 ∧ xs = []) ∨ ∃ g cap cur, v = .slice (some ⟨g, 0, none⟩) xs.length cap ∧ Blk w g cur T ∧ xs.length ≤ cap ∧ cap ≤ maxLen ∧ cur.length = cap ∧ cur.take xs.length = xs.map f := by
  obtain ⟨hl, h2⟩ := h
  rcases h2 with ⟨rfl, h0⟩ | ⟨g, cap, cur, rfl, hb, hh, hn, hm, r1, r2⟩
  · exact .inl ⟨rfl, List.eq_nil_of_length_eq_zero h0⟩
  · exact .inr ⟨g, cap, cur.toList, rfl, by simpa [Blk] using hh, hn, hm, by simpa using r1, by simpa using r2⟩
/-- One element stored. -/
theorem Own1.set {T : TypeId} {f : α → Value} {w : World} {g n cap : Nat} {xs : List α} (h : Own1 T f w (.slice (some ⟨g, 0, none⟩) n cap) xs) (i : Nat) (hi : i < xs.length) (y : α) : Own1 T f (w.setCell ⟨g, i, none⟩ (f y)) (.slice (some ⟨g, 0, none⟩) n cap) (xs.set i y) := by
  rcases h.cases with ⟨h, _⟩ | ⟨g', cap', cur, e, hb, h1, h2, h3, h4⟩
  · cases h
  · cases e
    have := Own1.of_blk (f := f) (xs := xs.set i y) (hb.set i (f y)) (by simpa using h1) h2 (by simpa using h3) (by rw [List.length_set, List.take_set, h4, List.map_set])
    rwa [List.length_set] at this
theorem Own1.frozen {T : TypeId} {f : α → Value} {w : World} {g n cap : Nat} {xs : List α} (h : Own1 T f w (.slice (some ⟨g, 0, none⟩) n cap) xs) (i : Nat) : w.frozen? ⟨g, i, none⟩ = false := by
  rcases h.cases with ⟨h, _⟩ | ⟨g', cap', cur, e, hb, h1, h2, h3, h4⟩
  · cases h
  · cases e
    exact hb.frozen i
end

/-! ### bytes -/
def by8 (x : UInt8) : Value := .int .u8 (x.toNat : Int)
abbrev RdB := Rd1 by8
abbrev OwnB := Own1 5 by8
theorem by8_one (x : UInt8) : (by8 x).oneCell' = true := rfl
theorem infoB : (Tryz.prog.info? 5).map (fun i => (i.zero, i.size, i.bytes)) = some (some (.int .u8 0), 1, 1) := by kernel_rfl

set_option maxRecDepth 100000 in
set_option maxHeartbeats 1000000 in
theorem cloneB_any (w : World) (v : Value) (xs : List UInt8) (hr : RdB w v xs) (hB : xs.length ≤ 140737488355328) :
    Calls Tryz.prog 82 #[v] w fun e w' => ∃ v', e = .returned v' ∧ OwnB w' v' xs ∧ New w v' ∧ Fr Nix w w' := by
  obtain ⟨i0, hi, hz0, hz1, hz2⟩ := info_parts infoB
  have hs := hr.src by8_one
  obtain ⟨hm, A, cap, rfl, hr⟩ := hr
  have he := fun (w : World) (a : Option Addr) (n c : Nat) => Lib.run_eql_slice_nil (P := Tryz.prog) w 50 5 a n c 0 0 Tryz.underlying50
  cases A with
  | none =>
    have : xs = [] := by rcases hr with h | ⟨b, off, h, _⟩; exact h; cases h
    subst this
    clear hr hs
    go_enter Tryz.func82, Tryz.ntmps82
    go_wp2
    go_ret
    refine ⟨_, rfl, World.ownsRow_nil _ _ _ _, (fun k hk => by cases hk), Fr.refl _ _⟩
  | some ad =>
    have HS := Lib.hid hs
    clear hs hr
    go_enter Tryz.func82, Tryz.ntmps82
    go_wp2_with (at_builtin; refine wp_append rfl _ _ 50 rfl 5 i0 _ 1 1 Tryz.underlying50 hi hz0 hz1 hz2 rfl (by decide) _ 0 [] rfl ?c1 _ rfl xs.length (xs.map by8) ?c2 ?c3 ?c4 ?c5)
    case c1 => exact own_empty w _ _
    case c2 => exact HS.out.mono ((Fr.refl Nix _).alloc _) (fun _ _ h => h)
    case c3 => simp only [maxLen]; omega
    case c4 => omega
    case c5 =>
      intro v' w' ho hf hat
      go_wp2
      go_ret
      refine ⟨_, rfl, ?_, ?_, ((Fr.refl Nix _).alloc _).then hf ?_⟩
      · exact ho
      · intro k hk
        replace hk : v'.ownBlock = some k := hk
        rcases hat with e | e
        · rw [e] at hk; simp [Value.ownBlock] at hk; omega
        · rw [e] at hk; cases hk; omega
      · intro k hk h
        simp [Foot, Value.ownBlock] at h
        omega

def sameB : List UInt8 → List UInt8 → Bool := fun a b => decide (a = b)
set_option maxHeartbeats 2000000 in
theorem sameBytes_any (w : World) (v u : Value) (xs ys : List UInt8) (hx : RdB w v xs) (hy : RdB w u ys) :
    Calls Tryz.prog 38 #[v, u] w fun e w' => e = .returned (.bool (decide (xs = ys))) ∧ Fr Nix w w' := by
  obtain ⟨hm, A, cap, rfl, hx⟩ := hx
  obtain ⟨hm', A', cap', rfl, hy⟩ := hy
  have HX := Lib.hid hx
  have HY := Lib.hid hy
  clear hx hy
  by_cases hl : xs.length = ys.length
  · go_enter Tryz.func38, Tryz.ntmps38
    have HL := Lib.hid hl
    go_wp2
    clear hl
    go_loopg [5] xs.length (fun gg s5 wr => ∃ k : Nat, k ≤ xs.length ∧ xs.length - k ≤ gg ∧ s5 = .int .i64 k ∧ Hid (Fr Nix w wr ∧ xs.take k = ys.take k))
    case atStart => exact ⟨0, Nat.zero_le _, by omega, rfl, Fr.refl _ _, by simp⟩
    case round =>
      obtain ⟨k, hk, hg, rfl, H⟩ := hrel
      by_cases hlt : k < xs.length
      · have hlt2 : k < ys.length := by rw [← HL.out]; exact hlt
        rcases HX.out with h0 | ⟨b, off, rfl, hb, hc⟩
        · rw [h0] at hlt; cases hlt
        rcases HY.out with h0 | ⟨b', off', rfl, hb', hc'⟩
        · rw [h0] at hlt2; cases hlt2
        have c0 := (H.out.1.cell (p := ⟨b, off + k, none⟩) hb (fun h => h)).trans (hc k hlt)
        have c2 := (H.out.1.cell (p := ⟨b', off' + k, none⟩) hb' (fun h => h)).trans (hc' k hlt2)
        have HE : Hid (xs.take (k + 1) = xs.take k ++ [xs[k]] ∧ ys.take (k + 1) = ys.take k ++ [ys[k]] ∧ xs[k] = xs[k] ∧ (xs = ys → xs[k] = ys[k])) := ⟨List.take_succ_eq_append_getElem hlt, List.take_succ_eq_append_getElem hlt2, rfl, fun e => by subst e; rfl⟩
        clear hc hc'
        unfold by8 at c0 c2
        generalize xs[k] = y at c0 HE ⊢
        generalize ys[k] = z at c2 HE ⊢
        have hy2 := y.toNat_lt
        have hz2 := z.toNat_lt
        go_wp2_with fail
        go_quiet (fail)
        go_wp2
        · rename_i hne
          go_ret
          have : xs ≠ ys := fun e => by
            have := HE.out.2.2.2 e
            subst this
            simp at hne
          exact ⟨by rw [decide_eq_false this]; rfl, H.out.1.drewN _⟩
        · rename_i hne
          have he : y = z := by
            apply UInt8.toNat_inj.1
            simp at hne
            omega
          go_roundg (xs.length - (k + 1))
          case measure => omega
          case rel => exact ⟨k + 1, by omega, by omega, by go_num, H.out.1.drewN _, by rw [HE.out.1, HE.out.2.1, H.out.2, he]⟩
      · obtain rfl : k = xs.length := by omega
        go_wp2
        go_ret
        refine ⟨?_, H.out.1⟩
        have h1 := H.out.2
        rw [List.take_length, HL.out, List.take_length] at h1
        rw [decide_eq_true h1]
        rfl
  · go_enter Tryz.func38, Tryz.ntmps38
    have hli : ¬ (xs.length : Int) = (ys.length : Int) := by omega
    clear hl
    go_wp2
    go_ret
    have : xs ≠ ys := fun e => by subst e; exact hli rfl
    exact ⟨by rw [decide_eq_false this]; rfl, Fr.refl _ _⟩
end Go.Proofs.YtnilbpofmohfhaaGreat
