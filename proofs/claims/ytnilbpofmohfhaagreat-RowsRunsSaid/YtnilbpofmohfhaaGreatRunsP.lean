/- RowsRuns: the fork's laws. -/
import Derived.Test.YtnilbpofmohfhaaGreatRuns15
namespace Go.Proofs.YtnilbpofmohfhaaGreat
open Go.RowKit

/-- The second table before the fork: none, and an empty document. -/
structure One (B : Nat) (w : World) (b m m2 : Nat) : Prop where
  d : IsM w m2 []
  new : ∀ k, FootM w m2 k → B ≤ k
  apart : ∀ k, FootM w m2 k → ¬ (FootT w b k ∨ FootM w m k)
theorem One.nix {B : Nat} {w w' : World} {b m m2 : Nat} {xs : List Rw} (h : One B w b m m2) (p : Pr B w b m xs) (hf : Fr Nix w w') : One B w' b m m2 :=
  ⟨h.d.nix hf, fun k hk => h.new k ((FootM.same h.d hf (fun h => h)).1 hk), fun k hk h2 => h.apart k ((FootM.same h.d hf (fun h => h)).1 hk) ((p.foot hf (fun _ _ h => h) k).1 h2)⟩
theorem Stp.foot {w w' : World} {b m : Nat} (st : Stp w w' b m) : ∀ k, FootT w' b k ∨ FootM w' m k → (FootT w b k ∨ FootM w m k) ∨ w.heap.size ≤ k := by
  rintro k (hk | hk)
  · rcases st.2.1 k hk with h | h
    · exact .inl (.inl h)
    · exact .inr h
  · rcases st.2.2 k hk with h | h
    · exact .inl (.inr h)
    · exact .inr h
theorem One.step {B : Nat} {w w' : World} {b m m2 : Nat} {xs ys : List Rw} (h : Pr B w b m xs) (o : One B w b m m2) (hb : Both w' b m ys) (st : Stp w w' b m) (hB : B ≤ w.heap.size) : Pr B w' b m ys ∧ One B w' b m m2 := by
  have hF : ∀ k, FootM w m2 k → ¬ (FootT w b k ∨ FootM w m k) := o.apart
  have f2 : ∀ k, FootM w' m2 k ↔ FootM w m2 k := fun k => FootM.same o.d st.1 (hF m2 (.inl rfl))
  refine ⟨⟨hb, fun k hk => ?_⟩, ⟨o.d.mono st.1 hF, fun k hk => o.new k ((f2 k).1 hk), fun k hk h3 => ?_⟩⟩
  · rcases st.foot k hk with h4 | h4
    · exact h.new k h4
    · omega
  · have hk' := (f2 k).1 hk
    rcases st.foot k h3 with h4 | h4
    · exact o.apart k hk' h4
    · have := o.d.lt hk'; omega
/-- The frame of a step, seen from the start. -/
theorem Pr.frame {B : Nat} {w0 w w' : World} {b m : Nat} {xs : List Rw} (h : Pr B w b m xs) (hf : Fr Nix w0 w) (st : Stp w w' b m) (hB : w0.heap.size ≤ B) : Fr Nix w0 w' :=
  hf.then st.1 (fun i hi e => by have := h.new i e; omega)
theorem fork_pair {B : Nat} {w w5 w6 : World} {b m b2 m2 : Nat} {v : Value} {xs : List Rw} (p : Pr B w b m xs) (o : One B w b m m2) (c1 : IsT w5 b2 xs) (c2 : Fr Nix w w5) (c3 : ∀ k, FootT w5 b2 k → w.heap.size ≤ k)
    (d1 : OwnR w6 v xs) (d2 : New w5 v) (d3 : Fr Nix w5 w6) (hB : B ≤ w.heap.size) :
    Pr B (w6.setCell ⟨m2, 0, none⟩ v) b m xs ∧ Pr B (w6.setCell ⟨m2, 0, none⟩ v) b2 m2 xs ∧ Sep (w6.setCell ⟨m2, 0, none⟩ v) b m b2 m2 := by
  have FS : Fr (fun k => k = m2) w6 (w6.setCell ⟨m2, 0, none⟩ v) := (Fr.refl (fun k => k = m2) w6).setCell (p := ⟨m2, 0, none⟩) (.inr rfl) _
  have hm2 : m2 < w.heap.size := o.d.lt (.inl rfl)
  have s5 := c2.size
  have s6 := d3.size
  have F6 := c2.nix d3
  have p6 := p.nix F6
  have hp : ∀ k, FootT w6 b k ∨ FootM w6 m k → ¬ k = m2 := fun k hk e => by
    subst e
    exact o.apart k (.inl rfl) ((p.foot F6 (fun _ _ h => h) k).1 hk)
  have p7 := p6.mono FS hp
  have p7f : ∀ k, FootT (w6.setCell ⟨m2, 0, none⟩ v) b k ∨ FootM (w6.setCell ⟨m2, 0, none⟩ v) m k → k < w.heap.size ∧ k ≠ m2 := fun k hk => by
    have h1 := (p6.foot FS hp k).1 hk
    exact ⟨p.lt ((p.foot F6 (fun _ _ h => h) k).1 h1), hp k h1⟩
  have t6 : IsT w6 b2 xs := c1.mono d3 (fun _ _ h => h)
  have ht : ∀ k, FootT w6 b2 k → w.heap.size ≤ k ∧ k < w5.heap.size := fun k hk => by
    have h1 := (footT_nix c1 d3).1 hk
    exact ⟨c3 k h1, c1.lt h1⟩
  have ht2 : ∀ k, FootT w6 b2 k → ¬ k = m2 := fun k hk e => by have := ht k hk; omega
  have t7 := t6.mono FS ht2
  have htf : ∀ k, FootT (w6.setCell ⟨m2, 0, none⟩ v) b2 k → w.heap.size ≤ k ∧ k < w5.heap.size := fun k hk => ht k ((FootT.same t6 FS ht2).1 hk)
  obtain ⟨v0, hb0, _⟩ := o.d.nix F6
  have hb7 := hb0.set 0 v
  have hmf : ∀ k, FootM (w6.setCell ⟨m2, 0, none⟩ v) m2 k → k = m2 ∨ w5.heap.size ≤ k := fun k hk => by
    rcases hk with h | ⟨v', h1, h2⟩
    · exact .inl h
    · have h3 : (w6.setCell ⟨m2, 0, none⟩ v).cell? ⟨m2, 0, none⟩ = some v := hb7.cell 0
      rw [h3] at h1
      cases h1
      exact .inr (d2 k h2)
  have hnv : ∀ k, v.ownBlock = some k → ¬ k = m2 := fun k hk e => by have := d2 k hk; omega
  have d7 : IsM (w6.setCell ⟨m2, 0, none⟩ v) m2 xs := ⟨v, hb7, d1.mono FS hnv, fun e => hnv _ e rfl⟩
  refine ⟨p7, ⟨⟨t7, d7, p.both.g, fun k h1 h2 => ?_⟩, fun k hk => ?_⟩, fun k h1 h2 => ?_⟩
  · have := htf k h1
    rcases hmf k h2 with h | h <;> omega
  · rcases hk with h | h
    · have := htf k h; omega
    · rcases hmf k h with h | h
      · rw [h]; exact o.new m2 (.inl rfl)
      · omega
  · have h3 := p7f k h1
    rcases h2 with h | h
    · have := htf k h; omega
    · rcases hmf k h with h | h
      · exact h3.2 h
      · omega
/-- One empty table and its document, newly made. -/
theorem start_pair {w w3 w5 : World} {T m m2 : Nat} (h1 : IsT w3 T []) (h3 : ∀ k, FootT w3 T k → w.heap.size ≤ k) (hf : Fr Nix w3 w5) (hm : w3.heap.size ≤ m) (hm2 : m < m2) (hw : w.heap.size ≤ w3.heap.size)
    (b1 : Blk w5 m [.slice none 0 0] 31) (b2 : Blk w5 m2 [.slice none 0 0] 31) : Pr w.heap.size w5 T m [] ∧ One w.heap.size w5 T m m2 := by
  have hM : ∀ {q : Nat}, Blk w5 q [.slice none 0 0] 31 → IsM w5 q [] ∧ ∀ k, FootM w5 q k → k = q := fun {q} hb => by
    refine ⟨⟨_, hb, World.ownsRow_nil _ _ _ _, fun e => by cases e⟩, fun k hk => ?_⟩
    rcases hk with h | ⟨v', g1, g2⟩
    · exact h
    · have : w5.cell? ⟨q, 0, none⟩ = some (.slice none 0 0) := hb.cell 0
      rw [this] at g1
      cases g1
      cases g2
  have hT : ∀ k, FootT w5 T k → w.heap.size ≤ k ∧ k < w3.heap.size := fun k hk => by
    have := (footT_nix h1 hf).1 hk
    exact ⟨h3 k this, h1.lt this⟩
  refine ⟨⟨⟨h1.mono hf (fun _ _ h => h), (hM b1).1, Good.nil, fun k g1 g2 => ?_⟩, fun k hk => ?_⟩, ⟨(hM b2).1, fun k hk => ?_, fun k hk h => ?_⟩⟩
  · have := (hM b1).2 k g2; have := hT k g1; omega
  · rcases hk with h | h
    · exact (hT k h).1
    · have := (hM b1).2 k h; omega
  · have := (hM b2).2 k hk; omega
  · have := (hM b2).2 k hk
    rcases h with h | h
    · have := hT k h; omega
    · have := (hM b1).2 k h; omega
end Go.Proofs.YtnilbpofmohfhaaGreat
