/- Spans that part all keys: the plain law (for shares). -/
import Derived.Test.YtpggnelngfpfgaaSpanH
import Derived.Test.YtpggnelngfpfgaaRw
namespace Go.Proofs.Ytpggnelngfpfgaa
open Go.RowKit

/-- Spans, one behind the other, from a text on; is the last one open? (A span is a Rw: k its low end, v its high end.) -/
def partsF : ByteArray → Bool → List Rw → Bool
  | _, op, [] => op
  | a, op, s :: r => rightB s.k s.v && decide (s.k = a) && !op && (!noneB s.v || decide (r = [])) && partsF s.v (noneB s.v) r
def partsB (l : List Rw) : Bool := partsF ByteArray.empty false l
theorem partsF_cons {a : ByteArray} {op : Bool} {s : Rw} {r : List Rw} (h : partsF a op (s :: r) = true) : rightB s.k s.v = true ∧ s.k = a ∧ op = false ∧ ((noneB s.v = true ∧ r = []) ∨ (noneB s.v = false ∧ partsF s.v false r = true)) := by
  rw [partsF] at h
  simp only [Bool.and_eq_true, decide_eq_true_eq] at h
  obtain ⟨⟨⟨⟨h1, h2⟩, h3⟩, h4⟩, h5⟩ := h
  refine ⟨h1, h2, by cases op <;> simp_all, ?_⟩
  cases hn : noneB s.v with
  | true => rw [hn] at h4; exact .inl ⟨rfl, by simpa using h4⟩
  | false => rw [hn] at h5; exact .inr ⟨rfl, h5⟩
theorem right_lt {lo hi : ByteArray} (h : rightB lo hi = true) (hn : noneB hi = false) : ltB lo hi = true := by
  simp only [rightB, hn, Bool.false_or, Bool.and_eq_true] at h
  exact h.2.2
theorem has_of_right {lo hi k : ByteArray} (h : rightB lo hi = true) (hk : keyB k = true) : hasB lo hi k = (!(ltB k lo) && (noneB hi || ltB k hi)) := by
  simp [hasB, h, hk]
theorem parts_below {key : ByteArray} (hk : keyB key = true) : ∀ (l : List Rw) (a : ByteArray), partsF a false l = true → ltB key a = true → l.filter (fun s => hasB s.k s.v key) = []
  | [], _, _, _ => rfl
  | s :: r, a, h, hlt => by
    obtain ⟨h1, rfl, _, h4⟩ := partsF_cons h
    have h0 : hasB s.k s.v key = false := by rw [has_of_right h1 hk, hlt]; rfl
    rw [List.filter_cons, h0]
    rcases h4 with ⟨_, rfl⟩ | ⟨hn, h5⟩
    · rfl
    · simpa using parts_below hk r s.v h5 (ltB_trans hlt (right_lt h1 hn))
/-- Of spans that part, just one has a key. -/
theorem parts_one {key : ByteArray} (hk : keyB key = true) : ∀ (l : List Rw) (a : ByteArray), partsF a false l = true → ltB key a = false → (l.filter (fun s => hasB s.k s.v key)).length = 1
  | [], _, h, _ => by cases h
  | s :: r, a, h, hlt => by
    obtain ⟨h1, rfl, _, h4⟩ := partsF_cons h
    rw [List.filter_cons, has_of_right h1 hk, hlt]
    rcases h4 with ⟨hn, rfl⟩ | ⟨hn, h5⟩
    · rw [hn]; rfl
    · rw [hn]
      cases hv : ltB key s.v with
      | true =>
        have := parts_below hk r s.v h5 hv
        simp [this]
      | false =>
        simpa using parts_one hk r s.v h5 hv
theorem ltB_none {k : ByteArray} (a : ByteArray) (h : a.size = 0) : ltB k a = false := by
  have : a.data = #[] := Array.eq_empty_of_size_eq_zero h
  simp [ltB, this]
theorem parts_key {l : List Rw} (h : partsB l = true) {key : ByteArray} (hk : keyB key = true) : (l.filter (fun s => hasB s.k s.v key)).length = 1 :=
  parts_one hk l _ h (ltB_none _ rfl)
theorem parts_nokey {l : List Rw} {key : ByteArray} (hk : keyB key = false) : l.filter (fun s => hasB s.k s.v key) = [] := by
  rw [List.filter_eq_nil_iff]
  intro s _
  simp [hasB, hk]
end Go.Proofs.Ytpggnelngfpfgaa
