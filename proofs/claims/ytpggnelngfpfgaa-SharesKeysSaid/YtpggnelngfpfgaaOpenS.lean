/- Shares, a handoff, as arguments: opened. -/
import Derived.Test.YtpggnelngfpfgaaOpenC
import Derived.Test.YtpggnelngfpfgaaShA
namespace Go.Proofs.Ytpggnelngfpfgaa
open Go.RowKit Go.ChangeShapes Go.WideShapes

section
variable {H : Type} {enc : TypeId × Value → H} {W : World} {base : Nat} {sp : Nat → Bool} {held : Bool}
instance : Inhabited Shr := ⟨⟨⟨#[]⟩, ⟨#[]⟩, 0, 0⟩⟩
/-- No text of these shares is too long for a machine. -/
def SmallS (l : List Shr) : Prop := ∀ x ∈ l, x.lo.size ≤ 140737488351232 ∧ x.hi.size ≤ 140737488351232
set_option maxRecDepth 100000 in
theorem opn_share : Opn enc W base sp held 41 cSh.f (fun x => x.lo.size ≤ 140737488351232 ∧ x.hi.size ≤ 140737488351232) := by
  intro fuel cs x h hw
  have hc : Try.prog.cellsOf 3 = 1 := by kernel_rfl
  have hc2 : Try.prog.cellsOf 29 = 2 := by kernel_rfl
  have hz : Try.prog.cellsOf 41 = 4 := by kernel_rfl
  obtain ⟨xs, k, _, hxy, hcl, hxl, hf⟩ := DataW.trod_struct Try.underlying41 h
  rw [hz] at hcl
  match xs, hxl, cs, hcl with
  | [y0, y1, y2], _, [v0, v1, v2, v3], _ =>
    have g0 := hf 0 _ rfl
    have g1 := hf 1 _ rfl
    have g2 := hf 2 _ rfl
    simp [hc, hc2] at g0 g1 g2
    have hd := congrArg Prod.fst hxy
    dsimp only at hd
    rw [hd] at hw
    obtain ⟨s, e1, q1, q2⟩ := opn_span k _ y0 g0 (fun k hk => hw k (weights_struct Try.underlying41 (j := 0) rfl rfl hk))
    obtain ⟨g, e2, _⟩ := opn_int k _ y1 g1 (fun k hk => hw k (weights_struct Try.underlying41 (j := 1) rfl rfl hk))
    obtain ⟨e, e3, _⟩ := opn_int k _ y2 g2 (fun k hk => hw k (weights_struct Try.underlying41 (j := 2) rfl rfl hk))
    simp at e1 e2 e3
    exact ⟨⟨s.k, s.v, g, e⟩, by rw [e1.1, e1.2, e2, e3]; rfl, q1, q2⟩
set_option maxRecDepth 100000 in
theorem opn_shares : Opn enc W base sp held 26 (fun p : Int × Value × List Shr => [.int .i64 p.1, p.2.1]) (fun p => RdSh W p.2.1 p.2.2 ∧ SmallS p.2.2 ∧ (∃ A n c, p.2.1 = .slice A n c) ∧ -9223372036854775808 ≤ p.1 ∧ p.1 < 9223372036854775808) := by
  intro fuel cs x h hw
  have hc : Try.prog.cellsOf 3 = 1 := by kernel_rfl
  have hc2 : Try.prog.cellsOf 24 = 1 := by kernel_rfl
  have hz : Try.prog.cellsOf 26 = 2 := by kernel_rfl
  obtain ⟨xs, k, _, hxy, hcl, hxl, hf⟩ := DataW.trod_struct Try.underlying26 h
  rw [hz] at hcl
  match xs, hxl, cs, hcl with
  | [y0, y1], _, [v0, v1], _ =>
    have g0 := hf 0 _ rfl
    have g1 := hf 1 _ rfl
    simp [hc, hc2] at g0 g1
    have hd := congrArg Prod.fst hxy
    dsimp only at hd
    rw [hd] at hw
    obtain ⟨n, e1, q1⟩ := opn_int k _ y0 g0 (fun k hk => hw k (weights_struct Try.underlying26 (j := 0) rfl rfl hk))
    obtain ⟨⟨v, l⟩, e2, q2, q3, q4, _⟩ := opn_slice cSh Try.underlying24 (by kernel_rfl) (by decide) 48 (by kernel_rfl) opn_share k _ y1 g1 (fun k hk => hw k (weights_struct Try.underlying26 (j := 1) rfl rfl hk))
    simp at e1 e2
    exact ⟨⟨n, v, l⟩, by rw [e1, e2], q2, q3, q4, q1⟩
end
end Go.Proofs.Ytpggnelngfpfgaa
