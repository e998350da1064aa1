/- RowsRuns: the walk. -/
import Derived.Test.YtnilbpofmohfhaaGreatAct
import Derived.Test.YtnilbpofmohfhaaGreatApartL
import Derived.Test.YtnilbpofmohfhaaGreatAwake
namespace Go.Proofs.YtnilbpofmohfhaaGreat
open Go.RowKit

/-- A pair of tables, new since there were B blocks. -/
structure Pr (B : Nat) (w : World) (b m : Nat) (xs : List Rw) : Prop where
  both : Both w b m xs
  new : ∀ k, FootT w b k ∨ FootM w m k → B ≤ k
def Sep (w : World) (b m b2 m2 : Nat) : Prop := ∀ k, FootT w b k ∨ FootM w m k → ¬ (FootT w b2 k ∨ FootM w m2 k)
theorem Pr.foot {B : Nat} {w w' : World} {b m : Nat} {xs : List Rw} (h : Pr B w b m xs) {F : Nat → Prop} (hf : Fr F w w') (hF : ∀ k, FootT w b k ∨ FootM w m k → ¬ F k) (k : Nat) : (FootT w' b k ∨ FootM w' m k) ↔ (FootT w b k ∨ FootM w m k) := by
  rw [FootT.same h.both.t hf (fun k hk => hF k (.inl hk)), FootM.same h.both.d hf (hF m (.inr (.inl rfl)))]
theorem Pr.mono {B : Nat} {w w' : World} {b m : Nat} {xs : List Rw} (h : Pr B w b m xs) {F : Nat → Prop} (hf : Fr F w w') (hF : ∀ k, FootT w b k ∨ FootM w m k → ¬ F k) : Pr B w' b m xs := by
  refine ⟨⟨h.both.t.mono hf (fun k hk => hF k (.inl hk)), h.both.d.mono hf (fun k hk => hF k (.inr hk)), h.both.g, fun k h1 h2 => ?_⟩, fun k hk => h.new k ((h.foot hf hF k).1 hk)⟩
  exact h.both.apart k ((FootT.same h.both.t hf (fun k hk => hF k (.inl hk))).1 h1) ((FootM.same h.both.d hf (hF m (.inr (.inl rfl)))).1 h2)
theorem Pr.nix {B : Nat} {w w' : World} {b m : Nat} {xs : List Rw} (h : Pr B w b m xs) (hf : Fr Nix w w') : Pr B w' b m xs := h.mono hf (fun _ _ h => h)
theorem Pr.lt {B : Nat} {w : World} {b m : Nat} {xs : List Rw} (h : Pr B w b m xs) {k : Nat} (hk : FootT w b k ∨ FootM w m k) : k < w.heap.size := by
  rcases hk with hk | hk
  · exact h.both.t.lt hk
  · exact h.both.d.lt hk
/-- A step of the one pair leaves the other. -/
theorem Pr.step {B : Nat} {w w' : World} {b m b2 m2 : Nat} {xs ys zs : List Rw} (h : Pr B w b m xs) (h2 : Pr B w b2 m2 zs) (hs : Sep w b m b2 m2) (hb : Both w' b m ys) (st : Stp w w' b m) (hB : B ≤ w.heap.size) :
    Pr B w' b m ys ∧ Pr B w' b2 m2 zs ∧ Sep w' b m b2 m2 ∧ Sep w' b2 m2 b m := by
  have hF : ∀ k, FootT w b2 k ∨ FootM w m2 k → ¬ (FootT w b k ∨ FootM w m k) := fun k h1 h2 => hs k h2 h1
  have h2' := h2.mono st.1 hF
  have f1 : ∀ k, FootT w' b k ∨ FootM w' m k → (FootT w b k ∨ FootM w m k) ∨ w.heap.size ≤ k := by
    rintro k (hk | hk)
    · rcases st.2.1 k hk with h | h
      · exact .inl (.inl h)
      · exact .inr h
    · rcases st.2.2 k hk with h | h
      · exact .inl (.inr h)
      · exact .inr h
  have f2 : ∀ k, FootT w' b2 k ∨ FootM w' m2 k → FootT w b2 k ∨ FootM w m2 k := fun k hk => (h2.foot st.1 hF k).1 hk
  have hsep : Sep w' b m b2 m2 := fun k h1 h3 => by
    rcases f1 k h1 with h4 | h4
    · exact hs k h4 (f2 k h3)
    · have := h2.lt (f2 k h3); omega
  refine ⟨⟨hb, fun k hk => ?_⟩, h2', hsep, fun k h1 h3 => hsep k h3 h1⟩
  rcases f1 k hk with h4 | h4
  · exact h.new k h4
  · omega
theorem Sep.nix {B : Nat} {w w' : World} {b m b2 m2 : Nat} {xs zs : List Rw} (h : Sep w b m b2 m2) (p : Pr B w b m xs) (q : Pr B w b2 m2 zs) (hf : Fr Nix w w') : Sep w' b m b2 m2 :=
  fun k h1 h2 => h k ((p.foot hf (fun _ _ h => h) k).1 h1) ((q.foot hf (fun _ _ h => h) k).1 h2)
theorem get_same (key : ByteArray) : ∀ {xs : List Rw}, Rising xs → getR key xs = vOr (valR key xs)
  | [], _ => rfl
  | y :: r, hs => by
    have hs' := List.pairwise_cons.1 hs
    rw [getR_cons, valR]
    cases hy : ltB y.k key with
    | true =>
      have : y.k ≠ key := ne_of_lt hy
      simp only [if_true, if_neg this]
      exact get_same key hs'.2
    | false =>
      simp only [Bool.false_eq_true, if_false]
      by_cases he : y.k = key
      · simp [he, vOr]
      · have : valR key r = none := val_above fun z hz => by
          have h1 : ltB y.k z.k = true := hs'.1 z hz
          cases h2 : ltB key y.k with
          | true => exact ltB_trans h2 h1
          | false => exact absurd (ltB_antisymm hy h2) he
        simp [he, this, vOr]
/-- The deed at place k, as the walk reads it. -/
theorem RdD.at {w wr : World} {A : Option Addr} {n c : Nat} {ds : List Dd} (h : RdD w (.slice A n c) ds) (hf : Fr Nix w wr) (k : Nat) (hk : k < ds.length) :
    ∃ b off, A = some ⟨b, off, none⟩ ∧ wr.cell? ⟨b, off + k * 4, none⟩ = some (.int .i64 ds[k].kind) ∧ wr.cell? ⟨b, off + k * 4 + 1, none⟩ = some ds[k].rv ∧ RdR wr ds[k].rv ds[k].rows ∧ wr.cell? ⟨b, off + k * 4 + 2, none⟩ = some (.string ds[k].lo) ∧ wr.cell? ⟨b, off + k * 4 + 3, none⟩ = some (.string ds[k].hi) := by
  obtain ⟨_, A', c', e, hr⟩ := h.nix hf
  simp only [Value.slice.injEq] at e
  obtain ⟨rfl, _, rfl⟩ := e
  rcases hr with h0 | ⟨b, off, e, hb, hc⟩
  · rw [h0] at hk; cases hk
  · exact ⟨b, off, e, hc k hk⟩
/-- The rows of a deed lie where they lay before. -/
theorem RdD.low {w : World} {v : Value} {ds : List Dd} (h : RdD w v ds) (k : Nat) (hk : k < ds.length) : ds[k].rows ≠ [] → ∀ i, ds[k].rv.ownBlock = some i → i < w.heap.size := by
  intro hne i hi
  obtain ⟨_, A, c, e, hr⟩ := h
  rcases hr with h0 | ⟨b, off, e2, hb, hc⟩
  · rw [h0] at hk; cases hk
  · obtain ⟨_, _, ⟨_, A', c', e3, hr3⟩, _⟩ := hc k hk
    rcases hr3 with h0 | ⟨b', off', e4, hb', _⟩
    · exact absurd h0 hne
    · rw [e3, e4] at hi
      cases hi
      exact hb'
end Go.Proofs.YtnilbpofmohfhaaGreat
