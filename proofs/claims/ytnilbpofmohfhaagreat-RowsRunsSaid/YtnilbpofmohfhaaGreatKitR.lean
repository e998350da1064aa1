/- The statements' kit over rows: LinesOf, SameLines. -/
import Derived.Test.YtnilbpofmohfhaaGreatRowsB
import Derived.Laws.StructEq
namespace Go.Proofs.YtnilbpofmohfhaaGreat
open Go.RowKit

/-- No text of these rows is too long for a machine. -/
def SmallR (l : List Rw) : Prop := ∀ x ∈ l, x.k.size ≤ 140737488351232 ∧ x.v.size ≤ 140737488351232
def linesN (most : Int) : List Rw → Int → Int
  | [], n => n
  | x :: r, n => if n ≤ most then linesN most r (n + 1 + (x.k.size : Int) / 8 + (x.v.size : Int) / 8) else n
theorem linesN_done (most : Int) (l : List Rw) (n : Int) (h : most < n) : linesN most l n = n := by
  cases l with
  | nil => rfl
  | cons x r => rw [linesN, if_neg (by omega)]
theorem linesN_length (most : Int) : ∀ (l : List Rw) (n : Int), linesN most l n ≤ most → n + l.length ≤ most
  | [], n, h => by simpa [linesN] using h
  | x :: r, n, h => by
    rw [linesN] at h
    split at h
    · have := linesN_length most r _ h
      simp only [List.length_cons]
      omega
    · omega

set_option maxHeartbeats 2000000 in
theorem linesOf_any (w : World) (v : Value) (xs : List Rw) (most : Int) (hr : RdR w v xs) (hs : SmallR xs) (hm0 : 0 ≤ most) (hm1 : most ≤ 1000000) :
    Calls Tryz.prog 23 #[v, .int .i64 most] w fun e w' => e = .returned (.int .i64 (linesN most xs 0)) ∧ Fr Nix w w' := by
  obtain ⟨hm, A, cap, rfl, hr⟩ := hr
  have HR := Lib.hid hr
  have HS := Lib.hid hs
  clear hr hs
  go_enter Tryz.func23, Tryz.ntmps23
  go_wp2
  go_loopg [5, 6] xs.length (fun gg s5 s6 wr => ∃ (k : Nat) (n : Int), k ≤ xs.length ∧ xs.length - k ≤ gg ∧ 0 ≤ n ∧ n ≤ 1000000000000000 ∧ s6 = .int .i64 k ∧ s5 = .int .i64 n ∧ Hid (Fr Nix w wr ∧ linesN most xs 0 = linesN most (xs.drop k) n))
  case atStart => exact ⟨0, 0, Nat.zero_le _, by omega, by omega, by omega, rfl, rfl, Fr.refl _ _, by simp⟩
  case round =>
    obtain ⟨k, n, hk, hg, hn0, hn1, rfl, rfl, H⟩ := hrel
    by_cases hlt : k < xs.length
    · by_cases hle : n ≤ most
      · rcases HR.out with h0 | ⟨b, off, rfl, hb, hc⟩
        · rw [h0] at hlt; cases hlt
        have c0 := (H.out.1.cell (p := ⟨b, off + k * 2, none⟩) hb (fun h => h)).trans (hc k hlt).1
        have c1 := (H.out.1.cell (p := ⟨b, off + k * 2 + 1, none⟩) hb (fun h => h)).trans (hc k hlt).2
        have hsm := HS.out xs[k] (List.getElem_mem hlt)
        have HE : Hid (linesN most xs 0 = linesN most (xs.drop (k + 1)) (n + 1 + (xs[k].k.size : Int) / 8 + (xs[k].v.size : Int) / 8)) := by
          show _ = _
          rw [H.out.2, List.drop_eq_getElem_cons hlt, linesN, if_pos hle]
        clear hc
        generalize xs[k] = y at c0 c1 hsm HE
        obtain ⟨hs1, hs2⟩ := hsm
        go_wp2_with fail
        go_quiet (fail)
        go_wp2
        go_roundg (xs.length - (k + 1))
        case measure => omega
        case rel => exact ⟨k + 1, n + 1 + (y.k.size : Int) / 8 + (y.v.size : Int) / 8, by omega, by omega, by omega, by omega, by go_num, rfl, H.out.1.drewN _, HE.out⟩
      · go_wp2
        go_ret
        exact ⟨ret_int (by rw [H.out.2, linesN_done _ _ _ (by omega)]), H.out.1⟩
    · obtain rfl : k = xs.length := by omega
      go_wp2
      go_ret
      exact ⟨ret_int (by rw [H.out.2, List.drop_length]; rfl), H.out.1⟩

def eqR (a b : Rw) : Bool := decide (a.k = b.k) && decide (a.v = b.v)
def sameR : List Rw → List Rw → Bool
  | [], [] => true
  | a :: x, b :: y => eqR a b && sameR x y
  | _, _ => false
theorem eqR_iff (a b : Rw) : eqR a b = true ↔ a = b := by
  obtain ⟨a1, a2⟩ := a
  obtain ⟨b1, b2⟩ := b
  simp [eqR]
theorem sameR_iff : ∀ x y, sameR x y = true ↔ x = y
  | [], [] => by simp [sameR]
  | a :: x, b :: y => by simp [sameR, eqR_iff, sameR_iff x y]
  | [], b :: y => by simp [sameR]
  | a :: x, [] => by simp [sameR]

section
variable {P : Program} {d : Nat} {xs ys : Array Value} {f : Field} {fs : List Field} {a b : Value} {r s : Bool} {w : World}
theorem eqf_last (hn : (f.name == "_") = false) (ha : (part f.type xs f.offset).run P w = .ok a w) (hb : (part f.type ys f.offset).run P w = .ok b w) (he : (Op.equalIn d f.type a b).run P w = .ok r w) : (Op.eqFields d xs ys [f]).run P w = .ok r w := by
  have hn' : f.name ≠ "_" := by simpa using hn
  simp only [Op.eqFields, if_pos hn', Sem.run_bind, ha, hb, he, Result.andThen_ok]
  cases r <;> simp
theorem eqf_cons (hn : (f.name == "_") = false) (ha : (part f.type xs f.offset).run P w = .ok a w) (hb : (part f.type ys f.offset).run P w = .ok b w) (he : (Op.equalIn d f.type a b).run P w = .ok r w) (hr : (Op.eqFields d xs ys fs).run P w = .ok s w) : (Op.eqFields d xs ys (f :: fs)).run P w = .ok (r && s) w := by
  have hn' : f.name ≠ "_" := by simpa using hn
  rw [Op.eqFields]
  simp only [if_pos hn', Sem.run_bind, ha, hb, he, Result.andThen_ok]
  cases r
  · simp
  · simpa using hr
theorem eqA_of {t : TypeId} {fs : Array Field} (hu : P.underlying t = some (.struct fs)) (hp : P.stoodInHeld t = false) (h : (Op.eqFields d xs ys fs.toList).run P w = .ok r w) : (Op.equalIn (d + 1) t (.agg xs) (.agg ys)).run P w = .ok r w := by
  have hf : P.fieldsOf t = fs := by simp [Program.fieldsOf, hu]
  rw [run_equalIn_struct (P := P) w d t xs ys (by rw [hf]; exact hu) hp, hf]
  exact h
end
theorem eqRow (d : Nat) (w : World) (x0 x1 y0 y1 : ByteArray) :
    (Op.equalIn (d + 2) 48 (.agg #[.string x0, .string x1]) (.agg #[.string y0, .string y1])).run Tryz.prog w = .ok (x0.toList == y0.toList && x1.toList == y1.toList) w := by
  refine eqA_of Tryz.underlying48 (by kernel_rfl) ?_
  refine eqf_cons (by rfl) (by go_simp; rfl) (by go_simp; rfl) (by go_simp) ?_
  exact eqf_last (by rfl) (by go_simp; rfl) (by go_simp; rfl) (by go_simp)
theorem toList_inj (a b : ByteArray) : (a.toList == b.toList) = decide (a = b) := by
  rw [ByteArray.toList_eq, ByteArray.toList_eq]
  obtain ⟨⟨x⟩⟩ := a
  obtain ⟨⟨y⟩⟩ := b
  rw [Bool.eq_iff_iff]
  simp
@[go_sem high] theorem neqRow (w : World) (x0 x1 y0 y1 : ByteArray) :
    (binOp .neq 48 (.agg #[.string x0, .string x1]) (.agg #[.string y0, .string y1])).run Tryz.prog w = .ok (.bool (!(decide (x0 = y0) && decide (x1 = y1)))) w := by
  rw [run_neq_struct, eqRow 9998, toList_inj, toList_inj]
  rfl

set_option maxHeartbeats 2000000 in
theorem sameLines_any (w : World) (v u : Value) (xs ys : List Rw) (hx : RdR w v xs) (hy : RdR w u ys) :
    Calls Tryz.prog 24 #[v, u] w fun e w' => e = .returned (.bool (sameR xs ys)) ∧ Fr Nix w w' := by
  obtain ⟨hm, A, cap, rfl, hx⟩ := hx
  obtain ⟨hm', A', cap', rfl, hy⟩ := hy
  have HX := Lib.hid hx
  have HY := Lib.hid hy
  clear hx hy
  by_cases hl : xs.length = ys.length
  · go_enter Tryz.func24, Tryz.ntmps24
    have HL := Lib.hid hl
    go_wp2
    clear hl
    go_loopg [5] xs.length (fun gg s5 wr => ∃ k : Nat, k ≤ xs.length ∧ xs.length - k ≤ gg ∧ s5 = .int .i64 k ∧ Hid (Fr Nix w wr ∧ sameR xs ys = sameR (xs.drop k) (ys.drop k)))
    case atStart => exact ⟨0, Nat.zero_le _, by omega, rfl, Fr.refl _ _, by simp⟩
    case round =>
      obtain ⟨k, hk, hg, rfl, H⟩ := hrel
      by_cases hlt : k < xs.length
      · have hlt2 : k < ys.length := by rw [← HL.out]; exact hlt
        rcases HX.out with h0 | ⟨b, off, rfl, hb, hc⟩
        · rw [h0] at hlt; cases hlt
        rcases HY.out with h0 | ⟨b', off', rfl, hb', hc'⟩
        · rw [h0] at hlt2; cases hlt2
        have c0 := (H.out.1.cell (p := ⟨b, off + k * 2, none⟩) hb (fun h => h)).trans (hc k hlt).1
        have c1 := (H.out.1.cell (p := ⟨b, off + k * 2 + 1, none⟩) hb (fun h => h)).trans (hc k hlt).2
        have c2 := (H.out.1.cell (p := ⟨b', off' + k * 2, none⟩) hb' (fun h => h)).trans (hc' k hlt2).1
        have c3 := (H.out.1.cell (p := ⟨b', off' + k * 2 + 1, none⟩) hb' (fun h => h)).trans (hc' k hlt2).2
        clear hc hc'
        go_wp2_with fail
        go_quiet (fail)
        have HE : Hid (sameR xs ys = (eqR xs[k] ys[k] && sameR (xs.drop (k + 1)) (ys.drop (k + 1)))) := by
          show _ = _
          rw [H.out.2, List.drop_eq_getElem_cons hlt, List.drop_eq_getElem_cons hlt2, sameR]
        generalize xs[k] = y at c0 c1 HE ⊢
        generalize ys[k] = z at c2 c3 HE ⊢
        go_wp2
        · rename_i hne
          go_ret
          have he : eqR y z = false := by
            rcases hne with h | h
            · simp [eqR]; intro h'; simp [h'] at h
            · simp [eqR]; intro _ h'; simp [h'] at h
          exact ⟨by rw [HE.out, he]; rfl, H.out.1.drewN _⟩
        · rename_i hne
          have he : eqR y z = true := by
            simp at hne
            simp [eqR, hne.1, hne.2]
          go_roundg (xs.length - (k + 1))
          case measure => omega
          case rel => exact ⟨k + 1, by omega, by omega, by go_num, H.out.1.drewN _, by rw [HE.out, he]; rfl⟩
      · obtain rfl : k = xs.length := by omega
        go_wp2
        go_ret
        exact ⟨by rw [H.out.2, List.drop_length, HL.out, List.drop_length]; rfl, H.out.1⟩
  · go_enter Tryz.func24, Tryz.ntmps24
    have hli : ¬ (xs.length : Int) = (ys.length : Int) := by omega
    clear hl
    go_wp2
    go_ret
    have : sameR xs ys = false := by
      by_cases h : sameR xs ys = true
      · rw [sameR_iff] at h
        subst h
        exact absurd rfl hli
      · simpa using h
    exact ⟨by rw [this]; rfl, Fr.refl _ _⟩
end Go.Proofs.YtnilbpofmohfhaaGreat
