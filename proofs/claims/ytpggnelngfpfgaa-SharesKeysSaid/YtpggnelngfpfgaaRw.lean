/- Pairs of texts (spans, rows) as they lie, read; New; field by field equality of structs. No function of a program in it. -/
import Derived.Test.YtpggnelngfpfgaaSpan
import Derived.Laws.StructEq
namespace Go.Proofs.Ytpggnelngfpfgaa
open Go.RowKit

structure Rw where
  k : ByteArray
  v : ByteArray

def Rw.val (x : Rw) : Value := .agg #[.string x.k, .string x.v]
/-- A slice value that reads as rows. -/
def RdR (w : World) (v : Value) (xs : List Rw) : Prop :=
  xs.length ≤ 9223372036854775807 ∧ ∃ A cap, v = .slice A xs.length cap ∧ (xs = [] ∨ ∃ b off, A = some ⟨b, off, none⟩ ∧ b < w.heap.size ∧
    ∀ i (h : i < xs.length), w.cell? ⟨b, off + i * 2, none⟩ = some (.string xs[i].k) ∧ w.cell? ⟨b, off + i * 2 + 1, none⟩ = some (.string xs[i].v))
theorem RdR.mono {F : Nat → Prop} {w w' : World} {v : Value} {xs : List Rw} (h : RdR w v xs) (hf : Fr F w w') (hF : ∀ b off n cap, v = .slice (some ⟨b, off, none⟩) n cap → ¬ F b) : RdR w' v xs := by
  obtain ⟨h0, A, cap, rfl, h⟩ := h
  refine ⟨h0, A, cap, rfl, ?_⟩
  rcases h with h | ⟨b, off, rfl, hb, hc⟩
  · exact .inl h
  · have := hF b off _ _ rfl
    exact .inr ⟨b, off, rfl, Nat.lt_of_lt_of_le hb hf.size, fun i hi => ⟨(hf.cell (p := ⟨b, _, none⟩) hb this).trans (hc i hi).1, (hf.cell (p := ⟨b, _, none⟩) hb this).trans (hc i hi).2⟩⟩
theorem RdR.nix {w w' : World} {v : Value} {xs : List Rw} (h : RdR w v xs) (hf : Fr Nix w w') : RdR w' v xs := h.mono hf (fun _ _ _ _ _ h => h)

def cellsR : List Rw → List Value
  | [] => []
  | x :: r => .string x.k :: .string x.v :: cellsR r
theorem cellsR_length : ∀ xs, (cellsR xs).length = xs.length * 2
  | [] => rfl
  | x :: r => by simp [cellsR, cellsR_length r, Nat.succ_mul]
theorem cellsR_append : ∀ xs ys, cellsR (xs ++ ys) = cellsR xs ++ cellsR ys
  | [], ys => rfl
  | x :: r, ys => by simp [cellsR, cellsR_append r ys]
theorem cellsR_one : ∀ xs, ∀ u ∈ cellsR xs, u.oneCell' = true
  | [], u, h => by cases h
  | x :: r, u, h => by
    simp only [cellsR, List.mem_cons] at h
    rcases h with rfl | rfl | h
    · rfl
    · rfl
    · exact cellsR_one r u h
theorem cellsR_k : ∀ xs i (h : i < xs.length), (cellsR xs)[i * 2]? = some (.string xs[i].k)
  | x :: r, 0, _ => rfl
  | x :: r, i + 1, h => by rw [cellsR, show (i + 1) * 2 = i * 2 + 1 + 1 by omega]; exact cellsR_k r i (by simpa using h)
theorem cellsR_v : ∀ xs i (h : i < xs.length), (cellsR xs)[i * 2 + 1]? = some (.string xs[i].v)
  | x :: r, 0, _ => rfl
  | x :: r, i + 1, h => by rw [cellsR, show (i + 1) * 2 + 1 = i * 2 + 1 + 1 + 1 by omega]; exact cellsR_v r i (by simpa using h)
theorem cellsR_of (xs : List Rw) (j : Nat) (u : Value) (h : (cellsR xs)[j]? = some u) : ∃ i, ∃ hi : i < xs.length, (j = i * 2 ∧ u = .string xs[i].k) ∨ (j = i * 2 + 1 ∧ u = .string xs[i].v) := by
  have hj : j < xs.length * 2 := by rw [← cellsR_length]; exact (List.getElem?_eq_some_iff.1 h).1
  refine ⟨j / 2, by omega, ?_⟩
  rcases Nat.mod_two_eq_zero_or_one j with e | e
  · have e1 : j = j / 2 * 2 := by omega
    have := cellsR_k xs (j / 2) (by omega)
    rw [← e1, h] at this
    exact .inl ⟨e1, Option.some.inj this⟩
  · have e1 : j = j / 2 * 2 + 1 := by omega
    have := cellsR_v xs (j / 2) (by omega)
    rw [← e1, h] at this
    exact .inr ⟨e1, Option.some.inj this⟩

theorem RdR.src {w : World} {v : Value} {xs : List Rw} (h : RdR w v xs) : Src w 2 v xs.length (cellsR xs) := by
  obtain ⟨hm, A, cap, rfl, h⟩ := h
  refine ⟨cellsR_length xs, cellsR_one xs, ?_⟩
  rcases h with rfl | ⟨b, off, rfl, hb, hc⟩
  · exact ⟨A, cap, rfl, fun _ => rfl, fun ad _ j u hu => by cases hu⟩
  · refine ⟨_, cap, rfl, (fun h => by cases h), fun ad h j u hu => ?_⟩
    cases h
    obtain ⟨i, hi, ⟨rfl, rfl⟩ | ⟨rfl, rfl⟩⟩ := cellsR_of xs j u hu
    · rw [addr_add]; exact (hc i hi).1
    · rw [addr_add]; exact (hc i hi).2

/-- Laid since w. -/
def New (w : World) (v : Value) : Prop := ∀ k, v.ownBlock = some k → w.heap.size ≤ k

section
variable {P : Program} {d : Nat} {xs ys : Array Value} {f : Field} {fs : List Field} {a b : Value} {r s : Bool} {w : World}
theorem eqf_last (hn : (f.name == "_") = false) (ha : (part f.type xs f.offset).run P w = .ok a w) (hb : (part f.type ys f.offset).run P w = .ok b w) (he : (Op.equalIn d f.type a b).run P w = .ok r w) : (Op.eqFields d xs ys [f]).run P w = .ok r w := by
  have hn' : f.name ≠ "_" := by simpa using hn
  simp only [Op.eqFields, if_pos hn', Sem.run_bind, ha, hb, he, Result.andThen_ok]
  cases r <;> simp
theorem eqf_cons (hn : (f.name == "_") = false) (ha : (part f.type xs f.offset).run P w = .ok a w) (hb : (part f.type ys f.offset).run P w = .ok b w) (he : (Op.equalIn d f.type a b).run P w = .ok r w) (hr : (Op.eqFields d xs ys fs).run P w = .ok s w) : (Op.eqFields d xs ys (f :: fs)).run P w = .ok (r && s) w := by
  have hn' : f.name ≠ "_" := by simpa using hn
  rw [Op.eqFields]
  simp only [if_pos hn', Sem.run_bind, ha, hb, he, Result.andThen_ok]
  cases r
  · simp
  · simpa using hr
theorem eqA_of {t : TypeId} {fs : Array Field} (hu : P.underlying t = some (.struct fs)) (hp : P.stoodInHeld t = false) (h : (Op.eqFields d xs ys fs.toList).run P w = .ok r w) : (Op.equalIn (d + 1) t (.agg xs) (.agg ys)).run P w = .ok r w := by
  have hf : P.fieldsOf t = fs := by simp [Program.fieldsOf, hu]
  rw [run_equalIn_struct (P := P) w d t xs ys (by rw [hf]; exact hu) hp, hf]
  exact h
end
theorem toList_inj (a b : ByteArray) : (a.toList == b.toList) = decide (a = b) := by
  rw [ByteArray.toList_eq, ByteArray.toList_eq]
  obtain ⟨⟨x⟩⟩ := a
  obtain ⟨⟨y⟩⟩ := b
  rw [Bool.eq_iff_iff]
  simp
theorem ne_of_lt {a b : ByteArray} (h : ltB a b = true) : a ≠ b := fun e => by rw [e, ltB_irrefl] at h; cases h
/-- Spans as pairs of texts: k the low end, v the high one. -/
def OwnS (w : World) (v : Value) (xs : List Rw) : Prop := w.ownsRow 0 29 2 v xs.length (cellsR xs)
theorem OwnS.mono {F : Nat → Prop} {w w' : World} {v : Value} {xs : List Rw} (h : OwnS w v xs) (hf : Fr F w w') (hF : ∀ k, v.ownBlock = some k → ¬ F k) : OwnS w' v xs := own_mono h hf hF
theorem OwnS.rd {w : World} {v : Value} {xs : List Rw} (h : OwnS w v xs) : RdR w v xs := by
  have hc := fun g hg => World.ownsRow.cells h (g := g) hg
  obtain ⟨hl, h2⟩ := h
  rcases h2 with ⟨rfl, h0⟩ | ⟨g, cap, cur, rfl, hb, hh, hn, hm, r⟩
  · have : xs = [] := List.eq_nil_of_length_eq_zero h0
    subst this
    exact ⟨by simp, none, 0, rfl, .inl rfl⟩
  · refine ⟨by simp only [maxLen] at hm; omega, _, cap, rfl, .inr ⟨g, 0, rfl, (Array.getElem?_eq_some_iff.1 hh).1, fun i hi => ⟨?_, ?_⟩⟩⟩
    · have := hc g rfl (i * 2) _ (cellsR_k xs i hi)
      rwa [addr_add] at this
    · have := hc g rfl (i * 2 + 1) _ (cellsR_v xs i hi)
      rw [addr_add] at this
      rw [← this]
      simp [Nat.add_assoc]
theorem OwnS.form {w : World} {v : Value} {xs : List Rw} (h : OwnS w v xs) : ∃ A n c, v = .slice A n c := by
  obtain ⟨_, A, c, e, _⟩ := h.rd
  exact ⟨A, _, c, e⟩
theorem rdR_blk {w : World} {g c : Nat} {T : TypeId} {xs : List Rw} (hb : Blk w g (cellsR xs) T) (hl : xs.length ≤ 1000000) : RdR w (.slice (some ⟨g, 0, none⟩) xs.length c) xs := by
  refine ⟨by omega, _, c, rfl, .inr ⟨g, 0, rfl, hb.lt, fun i hi => ⟨?_, ?_⟩⟩⟩
  · rw [Nat.zero_add, hb.cell]; exact cellsR_k xs i hi
  · rw [Nat.zero_add, hb.cell]; exact cellsR_v xs i hi
theorem infoSpan : (Try.prog.info? 29).map (fun i => (i.zero, i.size, i.bytes)) = some (some (.agg #[.string ⟨#[]⟩, .string ⟨#[]⟩]), 2, 32) := by kernel_rfl

end Go.Proofs.Ytpggnelngfpfgaa
