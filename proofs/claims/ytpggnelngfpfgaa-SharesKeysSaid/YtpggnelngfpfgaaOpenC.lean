/- Arguments opened, by what each type's cells are: Opn; slices of anything that opens. -/
import Derived.Test.YtpggnelngfpfgaaCod
import Derived.Test.YtpggnelngfpfgaaRw
import Derived.Test.YtpggnelngfpfgaaOne
import Derived.Deep.SlicePairs
import Derived.SizedLaws
import Derived.ShutString
import Derived.ChangeOld
import Derived.OpenShut
namespace Go.Proofs.Ytpggnelngfpfgaa
open Go.RowKit Go.ChangeShapes Go.WideShapes

section
variable {H : Type} {enc : TypeId × Value → H} {W : World} {base : Nat} {sp : Nat → Bool} {held : Bool} {α : Type}
/-- Cells of type t that are read as data are those of some element, of which Q holds. -/
def Opn (enc : TypeId × Value → H) (W : World) (base : Nat) (sp : Nat → Bool) (held : Bool) (t : TypeId) (f : α → List Value) (Q : α → Prop) : Prop :=
  ∀ (fuel : Nat) (cs : List Value) (x : DataW H × List MemPlace), DataW.trod enc Try.prog W base sp held fuel t cs = some x → (∀ k ∈ x.1.weights Try.prog t, k ≤ reachBytes) → ∃ a, cs = f a ∧ Q a
theorem weights_all {P : Program} {e : TypeId} {d : DataW H} {n : Nat} (hn : n ∈ d.weights P e) : ∀ {l : List (DataW H)}, d ∈ l → n ∈ DataW.weightsAll P e l
  | [], h => by cases h
  | x :: r, h => by
    rw [DataW.weightsAll, List.mem_append]
    rcases List.mem_cons.1 h with rfl | h
    · exact .inl hn
    · exact .inr (weights_all hn h)

theorem reach_eq : reachBytes = 140737488351232 := rfl
theorem weights_struct {P : Program} {t : TypeId} {fs : Array Field} (ht : P.underlying t = some (.struct fs)) {ds : List (DataW H)} {j : Nat} {f : Field} {d : DataW H} (hf : fs[j]? = some f) (hd : ds[j]? = some d) {k : Nat} (hk : k ∈ d.weights P f.type) : k ∈ (DataW.agg ds).weights P t := by
  rw [DataW.weights, ht]
  refine DataW.weights_mem_each (j := j) (t := f.type) ?_ hd k hk
  have : fs.toList[j]? = some f := by rw [Array.getElem?_toList]; exact hf
  rw [List.getElem?_map, this]
  rfl
theorem weights_slice {P : Program} {t e : TypeId} (ht : P.underlying t = some (.slice e)) {xs ys : List (DataW H)} {d : DataW H} (hd : d ∈ xs) {k : Nat} (hk : k ∈ d.weights P e) : k ∈ (DataW.slice xs ys).weights P t := by
  rw [DataW.weights, ht]
  exact List.mem_cons_of_mem _ (List.mem_append.2 (.inl (weights_all hk hd)))
theorem okI64 {x : Int} (h : (Lit.int .i64 x).wf = true) : -9223372036854775808 ≤ x ∧ x < 9223372036854775808 := by
  unfold Lit.wf at h
  simp at h
  have m1 : IntKind.i64.min = -9223372036854775808 := by decide
  have m2 : IntKind.i64.max = 9223372036854775807 := by decide
  omega
theorem okU8 {x : Int} (h : (Lit.int .u8 x).wf = true) : 0 ≤ x ∧ x < 256 := by
  unfold Lit.wf at h
  simp at h
  have m1 : IntKind.u8.min = 0 := by decide
  have m2 : IntKind.u8.max = 255 := by decide
  omega
theorem opn_string : Opn enc W base sp held 9 (fun s : ByteArray => [.string s]) (fun s => s.size ≤ 140737488351232) := by
  intro fuel cs x h hw
  obtain ⟨s, e1, e2, _⟩ := DataW.trod_string Try.underlying9 h
  refine ⟨s, e1, ?_⟩
  rw [e2] at hw
  simp only [DataW.weights, List.mem_singleton, forall_eq, reach_eq] at hw
  simpa using hw
theorem opn_int : Opn enc W base sp held 3 (fun n : Int => [.int .i64 n]) (fun n => -9223372036854775808 ≤ n ∧ n < 9223372036854775808) := by
  intro fuel cs x h _
  obtain ⟨n, e1, _, e3⟩ := DataW.trod_int Try.underlying3 h
  exact ⟨n, e1, okI64 e3⟩
theorem opn_bool : Opn enc W base sp held 4 (fun b : Bool => [.bool b]) (fun _ => True) := by
  intro fuel cs x h _
  obtain ⟨b, e1, _⟩ := DataW.trod_bool Try.underlying4 h
  exact ⟨b, e1, trivial⟩
set_option maxRecDepth 100000 in
/-- A slice of what opens. -/
theorem opn_slice [Inhabited α] (C : Cod α) {Q : α → Prop} {t e : TypeId} (ht : Try.prog.underlying t = some (.slice e)) (hce : Try.prog.cellsOf e = C.sz) (h0 : 0 < C.sz) (bts : Nat) (hby : Try.prog.bytesOf e = bts) (hO : Opn enc W base sp held e C.f Q) :
    Opn enc W base sp held t (fun p : Value × List α => [p.1]) (fun p => RdC C W p.1 p.2 ∧ (∀ x ∈ p.2, Q x) ∧ (∃ A n c, p.1 = .slice A n c) ∧ p.2.length * bts ≤ 140737488351232) := by
  intro fuel cs x hf hw
  rcases Deep.open_slice ht hf with ⟨hcs, _⟩ | ⟨a, n, cap, m, k, D, Pl, hcs, hb, hl, hm, hmm, hx, hall⟩
  · exact ⟨(.slice none 0 0, []), hcs, RdC.nil _ _ _ _, (fun x hx => by cases hx), ⟨_, _, _, rfl⟩, by simp⟩
  · have hlm : n ≤ m := by rw [hmm]; split <;> omega
    rw [hce] at hall
    have hd := congrArg Prod.fst hx
    dsimp only at hd
    have each : ∀ i, i < n → ∃ q : α, (∀ j u, (C.f q)[j]? = some u → W.cell? ((a.add (i * C.sz)).add j) = some u) ∧ Q q := by
      intro i hi
      obtain ⟨cs', h1, h2⟩ := hall i (by omega)
      obtain ⟨_, hlen, hcell⟩ := World.cells?_some h1
      have hmem : D i ∈ (List.range n).map D := List.mem_map.2 ⟨i, List.mem_range.2 hi, rfl⟩
      obtain ⟨q, rfl, hq⟩ := hO k cs' (D i, Pl i) h2 (fun k hk => hw k (by rw [hd]; exact weights_slice ht hmem hk))
      refine ⟨q, fun j u hu => ?_, hq⟩
      obtain ⟨hj, e⟩ := List.getElem?_eq_some_iff.1 hu
      have := hcell j (by rw [C.len] at hj; exact hj)
      rw [this]
      first | exact hu | (rw [hu]) | (simp [hu])
    obtain ⟨X, hX⟩ := Deep.choose_lt each
    refine ⟨(.slice (some a) n cap, (List.range n).map X), hcs, ⟨by simp; simp only [maxLen] at hm; omega, some a, cap, by simp, ?_⟩, ?_, ⟨_, _, _, rfl⟩, ?_⟩
    · by_cases hn : n = 0
      · left; subst hn; rfl
      · right
        have hl0 : 0 < (C.f (X 0)).length := by rw [C.len]; exact h0
        have hs := (hX 0 (by omega)).1 0 _ (List.getElem?_eq_getElem hl0)
        have hb0 : a.block < W.heap.size := by
          have := World.block_lt_of_cell? W _ hs
          simpa [Addr.add] using this
        obtain ⟨b, off, spot⟩ := a
        have : spot = none := by
          cases spot with
          | none => rfl
          | some z =>
            simp only [Addr.add, World.cell?] at hs
            split at hs
            · simp at hs
            · cases hs
        subst this
        refine ⟨b, off, rfl, hb0, fun i hi j u hu => ?_⟩
        have hi' : i < n := by simpa using hi
        simp only [List.getElem_map, List.getElem_range] at hu
        have := (hX i hi').1 j u hu
        rwa [addr_add, addr_add] at this
    · intro x hx'
      obtain ⟨i, hi, rfl⟩ := List.mem_map.1 hx'
      exact (hX i (List.mem_range.1 hi)).2
    · have h2 := hw _ (by rw [hd, DataW.weights, ht]; exact List.mem_cons_self)
      rw [hby, reach_eq] at h2
      simp only [List.length_map, List.length_range] at h2 ⊢
      have h3 : n * bts ≤ (n + (m - n)) * bts := Nat.mul_le_mul_right _ (by omega)
      omega
set_option maxRecDepth 100000 in
theorem open_agg {f : α → List Value} {Q : α → Prop} {t : TypeId} {fs : Array Field} {b0 : Nat} {v : Value} {d : DataW H} {p : List MemPlace} (ht : Try.prog.underlying t = some (.struct fs)) (hO : Opn enc W base sp held t f Q)
    (h : DataW.Trod enc Try.prog W base sp held t v d p) (hv : Value.okWide Try.prog W .any b0 t v) (hw : ∀ k ∈ d.weights Try.prog t, k ≤ reachBytes) : ∃ a, v = .agg (f a).toArray ∧ Q a := by
  simp only [Value.okWide, ht] at hv
  obtain ⟨cs, rfl, hs, _⟩ := hv
  obtain ⟨fuel, hf⟩ := h
  obtain ⟨a, e, q⟩ := hO fuel _ (d, p) hf hw
  refine ⟨a, ?_, q⟩
  simp [Value.cells] at e
  rw [← e]
set_option maxRecDepth 100000 in
theorem open_one {f : α → Value} {Q : α → Prop} {t : TypeId} {v : Value} {d : DataW H} {p : List MemPlace} (hO : Opn enc W base sp held t (fun a => [f a]) Q) (hv1 : v.cells = #[v])
    (h : DataW.Trod enc Try.prog W base sp held t v d p) (hw : ∀ k ∈ d.weights Try.prog t, k ≤ reachBytes) : ∃ a, v = f a ∧ Q a := by
  obtain ⟨fuel, hf⟩ := h
  obtain ⟨a, e, q⟩ := hO fuel _ (d, p) hf hw
  refine ⟨a, ?_, q⟩
  simpa [hv1] using e
set_option maxRecDepth 100000 in
theorem opn_span : Opn enc W base sp held 29 (fun p : Rw => [.string p.k, .string p.v]) (fun p => p.k.size ≤ 140737488351232 ∧ p.v.size ≤ 140737488351232) := by
  intro fuel cs x h hw
  have hc : Try.prog.cellsOf 9 = 1 := by kernel_rfl
  have hz : Try.prog.cellsOf 29 = 2 := by kernel_rfl
  obtain ⟨xs, k, _, hxy, hcl, hxl, hf⟩ := DataW.trod_struct Try.underlying29 h
  rw [hz] at hcl
  match xs, hxl, cs, hcl with
  | [y0, y1], _, [v0, v1], _ =>
    have g0 := hf 0 _ rfl
    have g1 := hf 1 _ rfl
    simp [hc] at g0 g1
    have hd := congrArg Prod.fst hxy
    dsimp only at hd
    rw [hd] at hw
    obtain ⟨s, e1, q1⟩ := opn_string k _ y0 g0 (fun k hk => hw k (weights_struct Try.underlying29 (j := 0) rfl rfl hk))
    obtain ⟨s', e2, q2⟩ := opn_string k _ y1 g1 (fun k hk => hw k (weights_struct Try.underlying29 (j := 1) rfl rfl hk))
    simp at e1 e2
    exact ⟨⟨s, s'⟩, by rw [e1, e2], q1, q2⟩
/-- One-cell elements, coded. -/
def cOne {α : Type} (f : α → Value) (h : ∀ a, (f a).oneCell' = true) : Cod α := ⟨fun a => [f a], 1, fun _ => rfl, fun a u hu => by rw [List.mem_singleton.1 hu]; exact h a⟩
theorem RdC.toOne {α : Type} {f : α → Value} {h : ∀ a, (f a).oneCell' = true} {w : World} {v : Value} {xs : List α} (hr : RdC (cOne f h) w v xs) : Rd1 f w v xs := by
  obtain ⟨h0, A, cap, rfl, hr⟩ := hr
  refine ⟨h0, A, cap, rfl, ?_⟩
  rcases hr with hr | ⟨b, off, rfl, hb, hc⟩
  · exact .inl hr
  · exact .inr ⟨b, off, rfl, hb, fun i hi => by
      have := hc i hi 0 _ rfl
      simpa [cOne] using this⟩
set_option maxRecDepth 100000 in
theorem open_texts {b0 : Nat} {A : Option Addr} {n c : Nat} {d : DataW H} {p : List MemPlace}
    (h : DataW.Trod enc Try.prog W base sp held 37 (.slice A n c) d p) (_hv : Value.okWide Try.prog W .any b0 37 (.slice A n c))
    (hw : ∀ k ∈ d.weights Try.prog 37, k ≤ reachBytes) : ∃ ss : List ByteArray, Rd1 Value.string W (.slice A n c) ss ∧ (∀ s ∈ ss, s.size ≤ 140737488351232) ∧ ss.length * 16 ≤ 140737488351232 := by
  obtain ⟨⟨v, ss⟩, e, h1, h2, _, h3⟩ := open_one (f := fun p : Value × List ByteArray => p.1) (opn_slice (cOne Value.string (fun _ => rfl)) Try.underlying37 (by kernel_rfl) (by decide) 16 (by kernel_rfl) opn_string) rfl h hw
  dsimp only at e h1 h2 h3
  subst e
  exact ⟨ss, h1.toOne, h2, h3⟩
end
end Go.Proofs.Ytpggnelngfpfgaa
