/- Arguments opened: deeds, texts, a span. -/
import Derived.Test.YtnilbpofmohfhaaGreatOpenB
import Derived.Test.YtnilbpofmohfhaaGreatDeeds
namespace Go.Proofs.YtnilbpofmohfhaaGreat
open Go.RowKit Go.ChangeShapes Go.WideShapes

theorem reach_eq : reachBytes = 140737488351232 := rfl
theorem weights_struct {H : Type} {P : Program} {t : TypeId} {fs : Array Field} (ht : P.underlying t = some (.struct fs)) {ds : List (DataW H)} {j : Nat} {f : Field} {d : DataW H} (hf : fs[j]? = some f) (hd : ds[j]? = some d) {k : Nat} (hk : k ∈ d.weights P f.type) : k ∈ (DataW.agg ds).weights P t := by
  rw [DataW.weights, ht]
  refine DataW.weights_mem_each (j := j) (t := f.type) ?_ hd k hk
  have : fs.toList[j]? = some f := by rw [Array.getElem?_toList]; exact hf
  rw [List.getElem?_map, this]
  rfl
theorem weights_slice {H : Type} {P : Program} {t e : TypeId} (ht : P.underlying t = some (.slice e)) {xs ys : List (DataW H)} {d : DataW H} (hd : d ∈ xs) {k : Nat} (hk : k ∈ d.weights P e) : k ∈ (DataW.slice xs ys).weights P t := by
  rw [DataW.weights, ht]
  exact List.mem_cons_of_mem _ (List.mem_append.2 (.inl (weights_all hk hd)))

set_option maxRecDepth 100000 in
/-- A span, as its two cells stand. -/
theorem open_span {H : Type} {enc : TypeId × Value → H} {W : World} {base : Nat} {sp : Nat → Bool} {held : Bool} {fuel : Nat} {v0 v1 : Value} {x : DataW H × List MemPlace}
    (h : DataW.trod enc Tryz.prog W base sp held fuel 36 [v0, v1] = some x) (hw : ∀ k ∈ x.1.weights Tryz.prog 36, k ≤ reachBytes) : ∃ lo hi : ByteArray, v0 = .string lo ∧ v1 = .string hi ∧ lo.size ≤ 140737488351232 ∧ hi.size ≤ 140737488351232 := by
  have hc : Tryz.prog.cellsOf 9 = 1 := by kernel_rfl
  obtain ⟨xs, k, _, hxy, _, hxl, hf⟩ := DataW.trod_struct Tryz.underlying36 h
  match xs, hxl with
  | [y0, y1], _ =>
    have g0 := hf 0 _ rfl
    have g1 := hf 1 _ rfl
    simp [hc] at g0 g1
    obtain ⟨s, e1, e2, _⟩ := DataW.trod_string Tryz.underlying9 g0
    obtain ⟨s', e3, e4, _⟩ := DataW.trod_string Tryz.underlying9 g1
    simp at e1 e3
    rw [hxy] at hw
    have w0 : ∀ k ∈ y0.1.weights Tryz.prog 9, k ≤ reachBytes := fun k hk => hw k (weights_struct Tryz.underlying36 (j := 0) rfl rfl hk)
    have w1 : ∀ k ∈ y1.1.weights Tryz.prog 9, k ≤ reachBytes := fun k hk => hw k (weights_struct Tryz.underlying36 (j := 1) rfl rfl hk)
    rw [e2] at w0
    rw [e4] at w1
    simp only [DataW.weights, List.mem_singleton, forall_eq, reach_eq] at w0 w1
    exact ⟨s, s', e1, e3, by simpa using w0, by simpa using w1⟩

set_option maxRecDepth 100000 in
theorem open_spanv {H : Type} {enc : TypeId × Value → H} {W : World} {base : Nat} {sp : Nat → Bool} {held : Bool} {b0 : Nat} {v : Value} {d : DataW H} {p : List MemPlace}
    (h : DataW.Trod enc Tryz.prog W base sp held 36 v d p) (hv : Value.okWide Tryz.prog W .any b0 36 v) (hw : ∀ k ∈ d.weights Tryz.prog 36, k ≤ reachBytes) :
    ∃ lo hi : ByteArray, v = .agg #[.string lo, .string hi] ∧ lo.size ≤ 140737488351232 ∧ hi.size ≤ 140737488351232 := by
  have hc : Tryz.prog.cellsOf 36 = 2 := by kernel_rfl
  simp only [Value.okWide, Tryz.underlying36] at hv
  obtain ⟨cs, rfl, hs, _⟩ := hv
  rw [hc] at hs
  obtain ⟨fuel, hf⟩ := h
  obtain ⟨l⟩ := cs
  match l, hs with
  | [u0, u1], _ =>
    obtain ⟨lo, hi, rfl, rfl, h3, h4⟩ := open_span (fuel := fuel) (v0 := u0) (v1 := u1) (x := (d, p)) (by simpa [Value.cells] using hf) hw
    exact ⟨lo, hi, rfl, h3, h4⟩
theorem okI64 {x : Int} (h : (Lit.int .i64 x).wf = true) : -9223372036854775808 ≤ x ∧ x < 9223372036854775808 := by
  unfold Lit.wf at h
  simp at h
  have m1 : IntKind.i64.min = -9223372036854775808 := by decide
  have m2 : IntKind.i64.max = 9223372036854775807 := by decide
  omega

set_option maxRecDepth 100000 in
theorem open_deeds {H : Type} {enc : TypeId × Value → H} {W : World} {base : Nat} {sp : Nat → Bool} {held : Bool} {b0 : Nat} {A : Option Addr} {n c : Nat} {d : DataW H} {p : List MemPlace}
    (h : DataW.Trod enc Tryz.prog W base sp held 22 (.slice A n c) d p) (hv : Value.okWide Tryz.prog W .any b0 22 (.slice A n c))
    (hw : ∀ k ∈ d.weights Tryz.prog 22, k ≤ reachBytes) : ∃ ds, RdD W (.slice A n c) ds ∧ SmallD ds := by
  obtain ⟨fuel, hf⟩ := h
  have ce : Tryz.prog.cellsOf 38 = 4 := by kernel_rfl
  have c3 : Tryz.prog.cellsOf 3 = 1 := by kernel_rfl
  have cr : Tryz.prog.cellsOf 29 = 1 := by kernel_rfl
  have cs2 : Tryz.prog.cellsOf 36 = 2 := by kernel_rfl
  rcases Deep.open_slice Tryz.underlying22 hf with ⟨hcs, _⟩ | ⟨a, len, cap, m, k, D, Pl, hcs, hb, hl, hm, hmm, hx, hall⟩
  · simp [Value.cells] at hcs
    obtain ⟨rfl, rfl, rfl⟩ := hcs
    exact ⟨[], ⟨by simp, none, 0, rfl, .inl rfl⟩, fun d hd => by cases hd⟩
  · simp [Value.cells] at hcs
    obtain ⟨rfl, rfl, rfl⟩ := hcs
    obtain ⟨w1, w2, w3⟩ := wide_slice Tryz.underlying22 hv
    have hlm : n ≤ m := by rw [hmm]; split <;> omega
    obtain ⟨b, off, spot⟩ := a
    obtain rfl : spot = none := w2
    rw [ce] at hall
    have hd := congrArg Prod.fst hx
    dsimp only at hd
    have each : ∀ i, i < n → ∃ q : Dd, (W.cell? ⟨b, off + i * 4, none⟩ = some (.int .i64 q.kind) ∧ W.cell? ⟨b, off + i * 4 + 1, none⟩ = some q.rv ∧ RdR W q.rv q.rows ∧
        W.cell? ⟨b, off + i * 4 + 2, none⟩ = some (.string q.lo) ∧ W.cell? ⟨b, off + i * 4 + 3, none⟩ = some (.string q.hi)) ∧
        SmallR q.rows ∧ q.lo.size ≤ 140737488351232 ∧ q.hi.size ≤ 140737488351232 ∧ -9223372036854775808 ≤ q.kind ∧ q.kind < 9223372036854775808 := by
      intro i hi
      obtain ⟨cs', h1, h2⟩ := hall i (by omega)
      obtain ⟨_, hlen, hcell⟩ := World.cells?_some h1
      obtain ⟨xs, k', _, hxy, _, hxl, hf'⟩ := DataW.trod_struct Tryz.underlying38 h2
      have hmem : D i ∈ (List.range n).map D := List.mem_map.2 ⟨i, List.mem_range.2 hi, rfl⟩
      have hwi : ∀ k ∈ (D i).weights Tryz.prog 38, k ≤ reachBytes := fun k hk => hw k (by rw [hd]; exact weights_slice Tryz.underlying22 hmem hk)
      match xs, hxl, cs', hlen with
      | [y0, y1, y2], _, [u0, u1, u2, u3], _ =>
        have g0 := hf' 0 _ rfl
        have g1 := hf' 1 _ rfl
        have g2 := hf' 2 _ rfl
        simp [c3, cr, cs2] at g0 g1 g2
        have e0 := hcell 0 (by omega)
        have e1 := hcell 1 (by omega)
        have e2 := hcell 2 (by omega)
        have e3 := hcell 3 (by omega)
        simp only [addr_add] at e0 e1 e2 e3
        have hDi := congrArg Prod.fst hxy
        dsimp only at hDi
        rw [hDi] at hwi
        obtain ⟨kd, f1, f2, f3⟩ := DataW.trod_int Tryz.underlying3 g0
        simp at f1
        have hI := okI64 f3
        obtain ⟨lo, hi', t1, t2, t3, t4⟩ := open_span g2 (fun k hk => hwi k (weights_struct Tryz.underlying38 (j := 2) rfl rfl hk))
        have hsl : ∃ A' n' c', u1 = .slice A' n' c' := by
          rcases Deep.open_slice Tryz.underlying29 g1 with ⟨hcs, _⟩ | ⟨a', len', cap', _, _, _, _, hcs, _⟩
          · simp at hcs; exact ⟨_, _, _, hcs⟩
          · simp at hcs; exact ⟨_, _, _, hcs⟩
        obtain ⟨A', n', c', rfl⟩ := hsl
        obtain ⟨rows, r1, r2⟩ := open_rows (enc := enc) (d := y1.1) (p := y1.2) ⟨k', by simpa [Value.cells] using g1⟩ (fun k hk => hwi k (weights_struct Tryz.underlying38 (j := 1) rfl rfl hk))
        refine ⟨⟨kd, .slice A' n' c', rows, lo, hi'⟩, ⟨?_, ?_, r1, ?_, ?_⟩, r2, t3, t4, hI.1, hI.2⟩
        · rw [← f1]; simpa using e0
        · simpa using e1
        · rw [← t1]; simpa using e2
        · rw [← t2]; simpa using e3
    haveI : Inhabited Dd := ⟨⟨0, .slice none 0 0, [], ⟨#[]⟩, ⟨#[]⟩⟩⟩
    obtain ⟨X, hX⟩ := Deep.choose_lt each
    refine ⟨(List.range n).map X, ⟨by simp; simp only [maxLen] at hm; omega, some ⟨b, off, none⟩, c, by simp, ?_⟩, ?_⟩
    · by_cases hn : n = 0
      · left; subst hn; rfl
      · right
        refine ⟨b, off, rfl, w1, fun i hi => ?_⟩
        have hi' : i < n := by simpa using hi
        simp only [List.getElem_map, List.getElem_range]
        exact (hX i hi').1
    · intro x hx'
      obtain ⟨i, hi, rfl⟩ := List.mem_map.1 hx'
      exact (hX i (List.mem_range.1 hi)).2

set_option maxRecDepth 100000 in
theorem open_texts {H : Type} {enc : TypeId × Value → H} {W : World} {base : Nat} {sp : Nat → Bool} {held : Bool} {b0 : Nat} {A : Option Addr} {n c : Nat} {d : DataW H} {p : List MemPlace}
    (h : DataW.Trod enc Tryz.prog W base sp held 23 (.slice A n c) d p) (hv : Value.okWide Tryz.prog W .any b0 23 (.slice A n c))
    (hw : ∀ k ∈ d.weights Tryz.prog 23, k ≤ reachBytes) : ∃ ss : List ByteArray, Rd1 Value.string W (.slice A n c) ss ∧ ∀ s ∈ ss, s.size ≤ 140737488351232 := by
  obtain ⟨fuel, hf⟩ := h
  rcases Deep.open_slice1 Tryz.underlying23 (by kernel_rfl) hf with ⟨hcs, _⟩ | ⟨a, len, cap, m, k, V, D, Pl, hcs, hb, hl, hm, hmm, hx, hall⟩
  · simp [Value.cells] at hcs
    obtain ⟨rfl, rfl, rfl⟩ := hcs
    exact ⟨[], Rd1.nil _ _ _ _, fun s hs => by cases hs⟩
  · simp [Value.cells] at hcs
    obtain ⟨rfl, rfl, rfl⟩ := hcs
    obtain ⟨w1, w2, w3⟩ := wide_slice Tryz.underlying23 hv
    have hlm : n ≤ m := by rw [hmm]; split <;> omega
    obtain ⟨b, off, spot⟩ := a
    obtain rfl : spot = none := w2
    have hd := congrArg Prod.fst hx
    dsimp only at hd
    have each : ∀ i, i < n → ∃ s : ByteArray, W.cell? ⟨b, off + i, none⟩ = some (.string s) ∧ s.size ≤ 140737488351232 := by
      intro i hi
      obtain ⟨h0, h1⟩ := hall i (by omega)
      obtain ⟨s, e1, e2, _⟩ := DataW.trod_string Tryz.underlying9 h1
      rw [addr_add] at h0
      simp at e1
      have hmem : D i ∈ (List.range n).map D := List.mem_map.2 ⟨i, List.mem_range.2 hi, rfl⟩
      have hwi : ∀ k ∈ (D i).weights Tryz.prog 9, k ≤ reachBytes := fun k hk => hw k (by rw [hd]; exact weights_slice Tryz.underlying23 hmem hk)
      have hDi := congrArg Prod.fst e2
      dsimp only at hDi
      rw [hDi] at hwi
      simp only [DataW.weights, List.mem_singleton, forall_eq, reach_eq] at hwi
      exact ⟨s, by rw [h0, e1], by simpa using hwi⟩
    haveI : Inhabited ByteArray := ⟨⟨#[]⟩⟩
    obtain ⟨X, hX⟩ := Deep.choose_lt each
    refine ⟨(List.range n).map X, ⟨by simp; simp only [maxLen] at hm; omega, some ⟨b, off, none⟩, c, by simp, ?_⟩, ?_⟩
    · by_cases hn : n = 0
      · left; subst hn; rfl
      · right
        refine ⟨b, off, rfl, w1, fun i hi => ?_⟩
        have hi' : i < n := by simpa using hi
        simp only [List.getElem_map, List.getElem_range]
        exact (hX i hi').1
    · intro x hx'
      obtain ⟨i, hi, rfl⟩ := List.mem_map.1 hx'
      exact (hX i (List.mem_range.1 hi)).2
end Go.Proofs.YtnilbpofmohfhaaGreat
