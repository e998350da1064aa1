/- Regions that draw their order, whose operations only read and whose callees keep all that was (they may make memory): one walk in the order of the text, over the class of all later worlds. -/
import Derived.Test.YtpggnelngfpfgaaWk
import Derived.BigQuiet
namespace Go.Proofs.Ytpggnelngfpfgaa
open Go.RowKit

/-- A world in which all of W is as it was. -/
structure Gt (W : World) where
  w : World
  fr : Fr Nix W w
instance (W : World) : Nonempty (Gt W) := ⟨⟨W, Fr.refl _ _⟩⟩
theorem Gt.cell {W : World} {p : Addr} {v : Value} (h : W.cell? p = some v) (n : Gt W) : n.w.cell? p = some v := n.fr.cell' h
theorem wp_region_gt {P : Program} {id : Nat} {Q : Exit → Act → World → Prop} {a : Act} {w : World} {l : List Oper} (hm : P.follows .mixedOrders = true) (hB : Region.lexB .any l.toArray = true)
    (h : wpQuiet P l.toArray (fun w' => ∃ n : Gt w, w' = n.w) (fun a' => ∀ w', (∃ n : Gt w, w' = n.w) → Q .normal a' w') l a) : (Code.region id l.toArray true).wp P Q a w :=
  wp_region_quiet (C := fun w' => ∃ n : Gt w, w' = n.w) hm hB ⟨⟨w.drew, (Fr.refl _ _).drew⟩, rfl⟩ (by simpa using h)
theorem _root_.Go.Calls.gt {P : Program} {f : FuncId} {args : Array Value} {w : World} {n : Gt w} {v : Value} (h : Calls P f args n.w fun e w' => e = .returned v ∧ Fr Nix n.w w') :
    Calls P f args n.w fun e w' => e = .returned v ∧ ∃ m : Gt w, w' = m.w :=
  h.mono fun _ w' ⟨he, hf⟩ => ⟨he, ⟨w', n.fr.trans hf⟩, rfl⟩
theorem _root_.Go.Calls.gt_same {P : Program} {f : FuncId} {args : Array Value} {w : World} {n : Gt w} {v : Value} (h : Calls P f args n.w fun e w' => e = .returned v ∧ n.w = w') :
    Calls P f args n.w fun e w' => e = .returned v ∧ ∃ m : Gt w, w' = m.w :=
  h.mono fun _ _ ⟨he, hf⟩ => ⟨he, n, hf.symm⟩
theorem Fr.undrew {F : Nat → Prop} {w w' : World} (h : Fr F w.drew w') : Fr F w w' := ⟨h.os, h.tape, h.output, h.size, h.block⟩
end Go.Proofs.Ytpggnelngfpfgaa
