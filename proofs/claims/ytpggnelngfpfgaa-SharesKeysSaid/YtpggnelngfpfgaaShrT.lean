/- Shares: what a turn does to the share of a key (plain law of SharesTurn). -/
import Derived.Test.YtpggnelngfpfgaaShrC
import Derived.Test.YtpggnelngfpfgaaShA
namespace Go.Proofs.Ytpggnelngfpfgaa
open Go.RowKit

def partedL (x : Shr) (p q : ByteArray) (g e : Int) : List Shr := (cutB x.lo x.hi [p, q]).map fun s => if s.k = p ∧ s.v = q then ⟨s.k, s.v, g, e⟩ else ⟨s.k, s.v, x.g, x.e⟩
def ofS (key : ByteArray) (l : List Shr) : Option Shr := l.find? (fun s => hasB s.lo s.hi key)
theorem parted_sp (x : Shr) (p q : ByteArray) (g e : Int) : (partedL x p q g e).map Shr.sp = cutB x.lo x.hi [p, q] := by
  unfold partedL
  rw [List.map_map]
  conv => rhs; rw [← List.map_id (cutB x.lo x.hi [p, q])]
  refine List.map_congr_left fun s _ => ?_
  simp only [Function.comp_apply, id_eq]
  split <;> rfl
theorem uniq {α : Type} {P : α → Bool} {l : List α} (h : (l.filter P).length = 1) {a b : α} (ha : a ∈ l) (pa : P a = true) (hb : b ∈ l) (pb : P b = true) : a = b := by
  obtain ⟨c, hc⟩ := List.length_eq_one_iff.1 h
  have h1 : a ∈ l.filter P := List.mem_filter.2 ⟨ha, pa⟩
  have h2 : b ∈ l.filter P := List.mem_filter.2 ⟨hb, pb⟩
  rw [hc, List.mem_singleton] at h1 h2
  rw [h1, h2]
theorem one_share {l : List Shr} (h : partsB (l.map Shr.sp) = true) {key : ByteArray} (hk : keyB key = true) : (l.filter (fun s => hasB s.lo s.hi key)).length = 1 := by
  have h1 := parts_key h hk
  rw [List.filter_map, List.length_map] at h1
  exact h1
theorem of_some {l : List Shr} (h : partsB (l.map Shr.sp) = true) {key : ByteArray} (hk : keyB key = true) : ∃ a, ofS key l = some a ∧ a ∈ l ∧ hasB a.lo a.hi key = true := by
  have h1 := one_share h hk
  cases hf : ofS key l with
  | none =>
    have : l.filter (fun s => hasB s.lo s.hi key) = [] := List.filter_eq_nil_iff.2 fun s hs => by
      have := List.find?_eq_none.1 hf s hs
      exact this
    rw [this] at h1
    cases h1
  | some a => exact ⟨a, rfl, List.mem_of_find?_eq_some hf, List.find?_some (p := fun s : Shr => hasB s.lo s.hi key) hf⟩
theorem of_none {l : List Shr} {key : ByteArray} (hk : keyB key = false) : ofS key l = none :=
  List.find?_eq_none.2 fun s _ => by simp [hasB, hk]
theorem turn_parts {l1 l2 : List Shr} {x : Shr} (p q : ByteArray) (g e : Int) (h : partsB ((l1 ++ x :: l2).map Shr.sp) = true) : partsB ((l1 ++ (partedL x p q g e ++ l2)).map Shr.sp) = true := by
  rw [List.map_append, List.map_cons] at h
  rw [List.map_append, List.map_append, parted_sp]
  exact parts_cut (s := x.sp) h [p, q]
/-- The turn: keys of the span get the new group and epoch, the others keep theirs. -/
theorem turn_law {l1 l2 : List Shr} {x : Shr} {p q : ByteArray} (g e : Int) (h : partsB ((l1 ++ x :: l2).map Shr.sp) = true) (hr : rightB p q = true) (hlo : ltB p x.lo = false) (ho : noneB x.hi = true ∨ (noneB q = false ∧ ltB x.hi q = false)) {key : ByteArray} (hk : keyB key = true) :
    ∃ a b, ofS key (l1 ++ x :: l2) = some a ∧ ofS key (l1 ++ (partedL x p q g e ++ l2)) = some b ∧ (hasB p q key = true → b.g = g ∧ b.e = e ∧ a = x) ∧ (hasB p q key = false → a.g = b.g ∧ a.e = b.e) := by
  have ht := turn_parts p q g e h
  have hx : rightB x.lo x.hi = true := parts_right _ _ h x.sp (List.mem_map_of_mem (by simp))
  obtain ⟨a, ha, ma, pa⟩ := of_some h hk
  obtain ⟨b, hb, mb, pb⟩ := of_some ht hk
  have u1 := one_share h hk
  have u2 := one_share ht hk
  refine ⟨a, b, ha, hb, fun hh => ?_, fun hh => ?_⟩
  · have m1 : (⟨p, q, g, e⟩ : Shr) ∈ l1 ++ (partedL x p q g e ++ l2) := by
      refine List.mem_append_right _ (List.mem_append_left _ ?_)
      unfold partedL
      exact List.mem_map.2 ⟨⟨p, q⟩, cut_within hx hr hlo ho, by simp⟩
    have e1 : b = ⟨p, q, g, e⟩ := uniq u2 mb pb m1 hh
    have e2 : a = x := uniq u1 ma pa (by simp) (has_within hx hlo ho hh)
    exact ⟨by rw [e1], by rw [e1], e2⟩
  · rcases List.mem_append.1 ma with m | m
    · have : a = b := uniq u2 (List.mem_append_left _ m) pa mb pb
      exact ⟨by rw [this], by rw [this]⟩
    · rcases List.mem_cons.1 m with m | m
      · rcases List.mem_append.1 mb with n | n
        · have : a = b := uniq u1 ma pa (List.mem_append_left _ n) pb
          exact ⟨by rw [this], by rw [this]⟩
        · rcases List.mem_append.1 n with n | n
          · unfold partedL at n
            obtain ⟨s, _, es⟩ := List.mem_map.1 n
            split at es
            · rename_i hs
              rw [← es] at pb
              dsimp only at pb
              rw [hs.1, hs.2, hh] at pb
              cases pb
            · rw [← es, m]; exact ⟨rfl, rfl⟩
          · have : a = b := uniq u1 ma pa (List.mem_append_right _ (List.mem_cons_of_mem _ n)) pb
            exact ⟨by rw [this], by rw [this]⟩
      · have : a = b := uniq u2 (List.mem_append_right _ (List.mem_append_right _ m)) pa mb pb
        exact ⟨by rw [this], by rw [this]⟩
end Go.Proofs.Ytpggnelngfpfgaa
