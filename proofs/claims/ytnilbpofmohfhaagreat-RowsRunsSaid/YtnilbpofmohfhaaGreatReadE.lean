/- rows.Read: the whole. -/
import Derived.Test.YtnilbpofmohfhaaGreatReadD
import Derived.Laws.EntriesVeiled
namespace Go.Proofs.YtnilbpofmohfhaaGreat
open Go.RowKit

def readRows (xs : List UInt8) : Option (List Rw) × Bool × List UInt8 :=
  if (numR 400 false xs).2.1 then (none, true, (numR 400 false xs).2.2) else loopR (numR 400 false xs).1 [] false (numR 400 false xs).2.2
theorem numR_most (most : Nat) (xs : List UInt8) : (numR most false xs).1 ≤ most := by
  show (numM most (getV 0 0 xs)).1 ≤ most
  cases h : getV 0 0 xs with
  | none => exact Nat.zero_le _
  | some q =>
    obtain ⟨n, r⟩ := q
    rw [numM]
    split
    · exact Nat.zero_le _
    · omega

set_option maxRecDepth 100000 in
set_option maxHeartbeats 4000000 in
theorem rowsRead_any (w : World) (b : Nat) (xs : List UInt8) (h : IsRd w b false xs) (hB : xs.length ≤ 1000000000) :
    Calls Tryz.prog 40 #[.pointer (some ⟨b, 0, none⟩)] w fun e w' => ∃ v, e = .returned (.tuple #[v, .bool (readRows xs).1.isSome]) ∧ OwnR w' v (rowsOf (readRows xs).1) ∧ New w v ∧ StepR w w' b (readRows xs).2.1 (readRows xs).2.2 := by
  obtain ⟨O, hO⟩ : ∃ O, O = readRows xs := ⟨_, rfl⟩
  have HO : Hid (O = readRows xs) := hO
  rw [← hO]
  clear hO
  unfold readRows at HO
  have hm := numR_most 400 xs
  have hle := (numR_le 400 false xs).2
  have HFL : Hid (∀ k, FootRd w b k → k < w.heap.size) := fun k hk => h.flt hk
  have hbl := h.lt
  have hF0 : Fr Nix w (w.alloc (.cells #[.pointer (some ⟨b, 0, none⟩)] 97)) := (Fr.refl _ _).alloc _
  have HN := Lib.hid (numR_any (w.alloc (.cells #[.pointer (some ⟨b, 0, none⟩)] 97)) b false xs 400 (h.nix hF0) (by decide))
  have hS0 := Lib.hid ((StepR.refl h).nix hF0)
  generalize numR 400 false xs = Q at HO hm hle HN
  obtain ⟨n, bd, rest⟩ := Q
  dsimp only at HO hm hle HN
  clear h
  go_enter Tryz.func40, Tryz.ntmps40
  go_wp2_with fail
  refine HN.out.mono ?_
  rintro e w1 ⟨rfl, h1⟩
  have S1 := Lib.hid (hS0.out.trans h1)
  have B1 : Hid (Blk w1 w.heap.size [.pointer (some ⟨b, 0, none⟩)] 97) := (Blk.new w [.pointer (some ⟨b, 0, none⟩)] _).mono h1.2.1 (by omega)
  clear h1 HN hS0
  have c0 : w1.cell? ⟨w.heap.size, 0, none⟩ = some (.pointer (some ⟨b, 0, none⟩)) := B1.out.cell 0
  have hz := S1.out.2.1.size
  have hz2 := ups B1.out.lt
  have eg := eg45
  obtain ⟨W2, hW2⟩ : ∃ W2, W2 = (w1.alloc (.cells #[.nilFunc] 25)).setCell ⟨w1.heap.size, 0, none⟩ (.func (.func 84) #[] #[.pointer (some ⟨w.heap.size, 0, none⟩)]) := ⟨_, rfl⟩
  have S2 : StepR w W2 b bd rest := by rw [hW2]; exact (S1.out.nix ((Fr.refl _ _).alloc _)).set hz HFL.out 0 _
  have B5 : Blk W2 w1.heap.size [.func (.func 84) #[] #[.pointer (some ⟨w.heap.size, 0, none⟩)]] 25 := by rw [hW2]; exact (Blk.new w1 [.nilFunc] _).set 0 _
  have B1' : Blk W2 w.heap.size [.pointer (some ⟨b, 0, none⟩)] 97 := by
    rw [hW2]
    exact ((B1.out.mono ((Fr.refl Nix w1).alloc _) (fun h => h)).mono ((Fr.refl (fun k => k = w1.heap.size) _).setCell (p := ⟨w1.heap.size, 0, none⟩) (.inr rfl) _) (by have := B1.out.lt; omega))
  have k0 : W2.cell? ⟨w1.heap.size, 0, none⟩ = some (.func (.func 84) #[] #[.pointer (some ⟨w.heap.size, 0, none⟩)]) := B5.cell 0
  have k1 : W2.cell? ⟨w.heap.size, 0, none⟩ = some (.pointer (some ⟨b, 0, none⟩)) := B1'.cell 0
  have HC := Lib.hid (read1_any W2 b w.heap.size bd rest S2.1 k1)
  have HL := fun hbd => Lib.hid (readL_any W2 b w.heap.size w1.heap.size n bd rest S2.1 (by omega) (by omega) k1 (by omega) (by have := B1.out.lt; omega) hbd)
  have S2' := Lib.hid S2
  have hz3 := S2.2.1.size
  clear S2 B5 B1' S1 B1 hF0
  have hfn : (w1.alloc (.cells #[.nilFunc] 25)).setCell ⟨w1.heap.size, 0, none⟩ (.func (.func 84) #[] #[.pointer (some ⟨w.heap.size, 0, none⟩)]) = W2 := hW2.symm
  clear hW2
  cases bd with
  | true =>
    have HO2 : Hid (O = (none, true, rest)) := HO.out
    clear HO
    go_wp2_with fail
    refine HC.out.mono ?_
    rintro e w3 ⟨rfl, rfl⟩
    go_wp2_with fail
    go_ret2
    rw [HO2.out]
    exact ⟨_, rfl, World.ownsRow_nil _ _ _ _, (fun k hk => by cases hk), S2'.out⟩
  | false =>
    have HO2 : Hid (O = loopR n [] false rest) := HO.out
    have HLL := HL k0
    clear HO HL
    go_wp2_with fail
    refine HC.out.mono ?_
    rintro e w3 ⟨rfl, rfl⟩
    go_wp2_with fail
    refine HLL.out.mono ?_
    rintro e w4 ⟨v, rfl, h1, h2, h3⟩
    have hO := HO2.out
    rw [← hO] at h1 h3 ⊢
    have H1 := Lib.hid h1
    have S4 := Lib.hid (S2'.out.trans h3)
    have H2 : Hid (New w v) := fun k hk => Nat.le_trans hz3 (h2 k hk)
    clear h1 h2 h3 HLL HO2 hO
    obtain ⟨A, L, c, e1⟩ := H1.out.form
    subst e1
    go_wp2_with fail
    go_ret2
    exact ⟨_, rfl, H1.out, H2.out, S4.out⟩
end Go.Proofs.YtnilbpofmohfhaaGreat
