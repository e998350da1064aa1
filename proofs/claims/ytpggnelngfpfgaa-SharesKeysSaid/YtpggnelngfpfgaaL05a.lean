/- watershedlaw05: great, awake. -/
import Derived.Test.YtpggnelngfpfgaaShU
import Derived.Test.YtpggnelngfpfgaaCutR
import Derived.Test.YtpggnelngfpfgaaOpenS
namespace Go.Proofs.Ytpggnelngfpfgaa
open Go.RowKit

/-- No text of these is too long for a machine. -/
def SmallT (l : List ByteArray) : Prop := ∀ s ∈ l, s.size ≤ 140737488351232
/-- A Bool is told; where it is false, P holds; all stays. -/
def BoolTells (w : World) (P : Prop) (e : Ending) (w' : World) : Prop := ∃ b : Bool, e = .returned (.bool b) ∧ (b = false → P) ∧ Fr Nix w w'
theorem tells_true {w w' : World} {P : Prop} (h : Fr Nix w w') : BoolTells w P (.returned (.bool true)) w' := ⟨true, rfl, (fun h => by cases h), h⟩
theorem tells_false {w w' : World} {P : Prop} (hP : P) (h : Fr Nix w w') : BoolTells w P (.returned (.bool false)) w' := ⟨false, rfl, fun _ => hP, h⟩
theorem blk_take_cell {w : World} {g n : Nat} {cur l : List Value} {T : TypeId} (hb : Blk w g cur T) (h : cur.take n = l) (i : Nat) (v : Value) (hi : l[i]? = some v) : w.cell? ⟨g, i, none⟩ = some v := by
  rw [hb.cell]
  rw [← h, List.getElem?_take] at hi
  split at hi
  · exact hi
  · cases hi
set_option maxRecDepth 100000 in
set_option maxHeartbeats 4000000 in
theorem great05_any (w : World) (ep : Int) (v kv : Value) (xs : List Shr) (ks : List ByteArray) (hv : RdSh w v xs) (hs : SmallS xs) (hk : RdT w kv ks) (hsk : SmallT ks) :
    Calls Try.prog 14 #[.agg #[.int .i64 ep, v], kv] w (BoolTells w (xs.length ≤ 60 ∧ ks.length ≤ 60)) := by
  obtain ⟨A, c, rfl⟩ := hv.form
  obtain ⟨A2, c2, rfl⟩ := hk.form
  have HV := Lib.hid hv
  have HS := Lib.hid hs
  have HK := Lib.hid hk
  have HSK := Lib.hid hsk
  clear hv hs hk hsk
  by_cases h1 : 60 < xs.length
  · have h1i : (60 : Int) < (xs.length : Int) := by omega
    go_enter Try.func14, Try.ntmps14
    go_wp2_with fail
    go_ret
    exact tells_true ((Fr.refl _ _).alloc _)
  · have h1i : ¬ (60 : Int) < (xs.length : Int) := by omega
    by_cases h2 : 60 < ks.length
    · have h2i : (60 : Int) < (ks.length : Int) := by omega
      go_enter Try.func14, Try.ntmps14
      go_wp2_with fail
      go_ret
      exact tells_true ((Fr.refl _ _).alloc _)
    · have h2i : ¬ (60 : Int) < (ks.length : Int) := by omega
      have FIN : Hid (xs.length ≤ 60 ∧ ks.length ≤ 60) := ⟨by omega, by omega⟩
      go_enter Try.func14, Try.ntmps14
      go_wp2_with fail
      go_loopg [5] xs.length (fun gg s5 wr => ∃ k : Nat, k ≤ xs.length ∧ xs.length - k ≤ gg ∧ s5 = .int .i64 k ∧ Hid (Fr Nix w wr ∧ wr.cell? ⟨w.heap.size, 1, none⟩ = some (.slice A xs.length c)))
      case atStart => exact ⟨0, Nat.zero_le _, by omega, rfl, (Fr.refl _ _).alloc _, by go_simp⟩
      case round =>
        obtain ⟨k, hk, hg, rfl, H⟩ := hrel
        have b1 := H.out.2
        by_cases hlt : k < xs.length
        · have hlti : (k : Int) < (xs.length : Int) := by omega
          obtain ⟨_, A', c', e, hrd⟩ := HV.out
          simp only [Value.slice.injEq] at e
          obtain ⟨rfl, e2, rfl⟩ := e
          clear e2
          rcases hrd with h0 | ⟨b, off, rfl, hb, hc⟩
          · rw [h0] at hlt; cases hlt
          obtain ⟨c0, c1, c2', c3⟩ := sh_cells hc H.out.1 k hlt
          have hsm := HS.out xs[k] (List.getElem_mem hlt)
          clear hc
          generalize xs[k] = y at c0 c1 c2' c3 hsm
          obtain ⟨lo, hi, g, e⟩ := y
          dsimp only at c0 c1 c2' c3 hsm
          obtain ⟨m1, m2⟩ := hsm
          go_wp2_with fail
          go_quiet (fail)
          by_cases hgr : (100 : Int) < (lo.size : Int) + (hi.size : Int)
          · go_wp2_with fail
            go_ret
            exact tells_true (H.out.1.drewN _)
          · go_wp2_with fail
            go_roundg (xs.length - (k + 1))
            case measure => omega
            case rel => exact ⟨k + 1, by omega, by omega, by go_num, H.out.1.drewN _, H.out.2⟩
        · obtain ⟨n, hn⟩ : ∃ n, n = xs.length := ⟨_, rfl⟩
          have hkn : k = n := by omega
          have hlti : ¬ (k : Int) < (xs.length : Int) := by omega
          go_wp2_with fail
          have F0 : Hid (Fr Nix w wr) := H.out.1
          clear H
          go_loopg [6] ks.length (fun gg s6 wr' => ∃ k : Nat, k ≤ ks.length ∧ ks.length - k ≤ gg ∧ s6 = .int .i64 k ∧ Hid (Fr Nix w wr'))
          case atStart => exact ⟨0, Nat.zero_le _, by omega, rfl, F0.out⟩
          case round =>
            obtain ⟨i, hi, hg2, rfl, H⟩ := hrel
            by_cases hlt2 : i < ks.length
            · have hlt2i : (i : Int) < (ks.length : Int) := by omega
              obtain ⟨_, A', c', e, hrd⟩ := HK.out
              simp only [Value.slice.injEq] at e
              obtain ⟨rfl, e2, rfl⟩ := e
              clear e2
              rcases hrd with h0 | ⟨b, off, rfl, hb, hc⟩
              · rw [h0] at hlt2; cases hlt2
              have c0 := H.out.cell' (hc i hlt2)
              have hsm := HSK.out ks[i] (List.getElem_mem hlt2)
              clear hc
              generalize ks[i] = t at c0 hsm
              by_cases hgr : (100 : Int) < (t.size : Int)
              · go_wp2_with fail
                go_ret
                exact tells_true (H.out)
              · go_wp2_with fail
                go_roundg (ks.length - (i + 1))
                case measure => omega
                case rel => exact ⟨i + 1, by omega, by omega, by go_num, H.out⟩
            · have hlt2i : ¬ (i : Int) < (ks.length : Int) := by omega
              go_wp2_with fail
              go_ret
              exact tells_false FIN.out H.out

/-! ### the anchor -/
def partedR (x : Shr) (p q : ByteArray) (g e : Int) : List Shr := (cutR x.lo x.hi [p, q]).map fun s => if s.k = p ∧ s.v = q then ⟨s.k, s.v, g, e⟩ else ⟨s.k, s.v, x.g, x.e⟩
theorem parted_eq (x : Shr) (p q : ByteArray) (g e : Int) : partedL x p q g e = partedR x p q g e := by
  unfold partedL partedR
  rw [cutR_eq x.lo x.hi [p, q] [p, q] (fun _ _ => Iff.rfl)]
def exB : Shs × Int := (⟨2, [⟨⟨#[]⟩, ⟨#[109]⟩, 1, 1⟩, ⟨⟨#[109]⟩, ⟨#[]⟩, 2, 2⟩]⟩, 0)
theorem ex_turn : turnB (firstB 1) ⟨#[109]⟩ ⟨#[]⟩ 2 = exB := by
  rw [turn_k (k := 0) (by kernel_rfl) (by kernel_rfl) (by kernel_rfl) (by decide) (by kernel_rfl), parted_eq]
  kernel_rfl
set_option maxRecDepth 100000 in
set_option maxHeartbeats 2000000 in
theorem awake05_any (w : World) :
    Calls Try.prog 8 #[] w fun e w' => e = .returned (.bool true) ∧ Fr Nix w w' := by
  go_enter Try.func8, Try.ntmps8
  go_wp2_with fail
  refine (first_any _ _).mono ?_
  rintro e w1 ⟨v1, rfl, o1, n1, f1⟩
  obtain ⟨A1, m1, c1, rfl⟩ := o1.form
  have HT := Lib.hid (turn_any w1 1 (.slice A1 m1 c1) (firstB 1).l ⟨#[109]⟩ ⟨#[]⟩ 2 o1.rd (by decide))
  have F1 := Lib.hid f1
  clear o1 n1 f1
  go_wp2_with fail
  refine HT.out.mono ?_
  rintro e w2 ⟨v2, rfl, o2, n2, f2⟩
  have hx : turnB ⟨1, (firstB 1).l⟩ ⟨#[109]⟩ ⟨#[]⟩ 2 = exB := ex_turn
  rw [hx] at o2 ⊢
  rcases o2.cases with ⟨_, h0⟩ | ⟨g, cap, cur, rfl, hb, k1, k2, k3, k4⟩
  · cases h0
  have e2 : exB.1.l.length = 2 := rfl
  have e3 : exB.1.ep = 2 := rfl
  have e4 : exB.2 = 0 := rfl
  have c0 : w2.cell? ⟨g, 0, none⟩ = some (.string ⟨#[]⟩) := blk_take_cell hb k4 0 _ rfl
  have c1 : w2.cell? ⟨g, 1, none⟩ = some (.string ⟨#[109]⟩) := blk_take_cell hb k4 1 _ rfl
  have c2 : w2.cell? ⟨g, 2, none⟩ = some (.int .i64 1) := blk_take_cell hb k4 2 _ rfl
  have c3 : w2.cell? ⟨g, 3, none⟩ = some (.int .i64 1) := blk_take_cell hb k4 3 _ rfl
  have c4 : w2.cell? ⟨g, 4, none⟩ = some (.string ⟨#[109]⟩) := blk_take_cell hb k4 4 _ rfl
  have c5 : w2.cell? ⟨g, 4 + 1, none⟩ = some (.string ⟨#[]⟩) := blk_take_cell hb k4 5 _ rfl
  have c6 : w2.cell? ⟨g, 4 + 2, none⟩ = some (.int .i64 2) := blk_take_cell hb k4 6 _ rfl
  have c7 : w2.cell? ⟨g, 4 + 3, none⟩ = some (.int .i64 2) := blk_take_cell hb k4 7 _ rfl
  have c5' : w2.cell? ⟨g, 5, none⟩ = some (.string ⟨#[]⟩) := c5
  have c6' : w2.cell? ⟨g, 6, none⟩ = some (.int .i64 2) := c6
  have c7' : w2.cell? ⟨g, 7, none⟩ = some (.int .i64 2) := c7
  have hg := ups hb.lt
  have F2 : Hid (Fr Nix w w2) := F1.out.nix f2
  rw [e2, e3, e4]
  have s1 : eqSh ⟨⟨#[]⟩, ⟨#[109]⟩, 1, 1⟩ ⟨⟨#[]⟩, ⟨#[109]⟩, 1, 1⟩ = true := by decide
  have s2 : eqSh ⟨⟨#[109]⟩, ⟨#[]⟩, 2, 2⟩ ⟨⟨#[109]⟩, ⟨#[]⟩, 2, 2⟩ = true := by decide
  clear hx o2 n2 f2 HT hb k1 k2 k3 k4 e2 e3 e4 F1
  go_wp2_with fail
  go_ret
  refine ⟨?_, F2.out.alloc _⟩
  first | rfl | (simp [s1, s2])
end Go.Proofs.Ytpggnelngfpfgaa
