/- Shares: what Right, Of, In, Turn, Groups tell, as plain functions; what follows of them. -/
import Derived.Test.YtpggnelngfpfgaaShrT
namespace Go.Proofs.Ytpggnelngfpfgaa
open Go.RowKit

structure Shs where
  ep : Int
  l : List Shr
def Shs.zero : Shs := ⟨0, []⟩
def Shr.zero : Shr := ⟨⟨#[]⟩, ⟨#[]⟩, 0, 0⟩
def shrOk (ep : Int) (x : Shr) : Bool := inB x.g 1 4 && inB x.e 1 ep
def rightS (s : Shs) : Bool := inB s.ep 1 1073741824 && decide (s.l.length ≤ 40) && s.l.all (shrOk s.ep) && partsB (s.l.map Shr.sp)
/-- Is the span p, q within the span lo, hi? -/
def withB (p q lo hi : ByteArray) : Bool := rightB p q && rightB lo hi && !(ltB p lo) && (noneB hi || (!noneB q && !(ltB hi q)))
def ofB (s : Shs) (key : ByteArray) : Option Shr := if rightS s then ofS key s.l else none
def inS (s : Shs) (p q : ByteArray) : Option Shr := if rightS s then s.l.find? (fun x => withB p q x.lo x.hi) else none
def turnB (s : Shs) (p q : ByteArray) (g : Int) : Shs × Int :=
  if rightS s && rightB p q && inB g 1 4 then
    match s.l.findIdx? (fun x => withB p q x.lo x.hi) with
    | none => (Shs.zero, 6)
    | some k => match s.l[k]? with
      | none => (Shs.zero, 6)
      | some x =>
        if x.g = g then (Shs.zero, 7)
        else if s.ep = 1073741824 ∨ 40 < (s.l.take k ++ (partedL x p q g (s.ep + 1) ++ s.l.drop (k + 1))).length then (Shs.zero, 8)
        else (⟨s.ep + 1, s.l.take k ++ (partedL x p q g (s.ep + 1) ++ s.l.drop (k + 1))⟩, 0)
  else (Shs.zero, 2)
theorem inB_iff (n lo hi : Int) : inB n lo hi = true ↔ lo ≤ n ∧ n ≤ hi := by simp [inB]
theorem rightS_iff (s : Shs) : rightS s = true ↔ (1 ≤ s.ep ∧ s.ep ≤ 1073741824) ∧ s.l.length ≤ 40 ∧ (∀ x ∈ s.l, (1 ≤ x.g ∧ x.g ≤ 4) ∧ (1 ≤ x.e ∧ x.e ≤ s.ep)) ∧ partsB (s.l.map Shr.sp) = true := by
  simp only [rightS, Bool.and_eq_true, inB_iff, decide_eq_true_eq, List.all_eq_true, shrOk, and_assoc]
theorem withB_iff (p q lo hi : ByteArray) : withB p q lo hi = true ↔ rightB p q = true ∧ rightB lo hi = true ∧ ltB p lo = false ∧ (noneB hi = true ∨ (noneB q = false ∧ ltB hi q = false)) := by
  simp only [withB, Bool.and_eq_true, Bool.or_eq_true, Bool.not_eq_true', and_assoc]
/-- What a turn that is done tells. -/
theorem turn_ok {s t : Shs} {p q : ByteArray} {g : Int} (h : turnB s p q g = (t, 0)) : ∃ l1 x l2, s.l = l1 ++ x :: l2 ∧ inS s p q = some x ∧ withB p q x.lo x.hi = true ∧ x.g ≠ g ∧ rightS s = true ∧ rightB p q = true ∧ inB g 1 4 = true ∧ s.ep ≠ 1073741824 ∧
    t = ⟨s.ep + 1, l1 ++ (partedL x p q g (s.ep + 1) ++ l2)⟩ ∧ t.l.length ≤ 40 := by
  unfold turnB at h
  split at h
  · rename_i hc
    simp only [Bool.and_eq_true, and_assoc] at hc
    split at h
    · simp at h
    · rename_i k hk
      obtain ⟨hk1, hk2, hk3⟩ := List.findIdx?_eq_some_iff_getElem.1 hk
      rw [List.getElem?_eq_getElem hk1] at h
      dsimp only at h
      split at h
      · simp at h
      · rename_i hg
        split at h
        · simp at h
        · rename_i hn
          have e := (Prod.mk.inj h).1
          refine ⟨s.l.take k, s.l[k], s.l.drop (k + 1), ?_, ?_, hk2, hg, hc.1, hc.2.1, hc.2.2, fun h => hn (.inl h), e.symm, ?_⟩
          · rw [← List.drop_eq_getElem_cons hk1, List.take_append_drop]
          · rw [inS, if_pos hc.1, List.find?_eq_some_iff_getElem]
            exact ⟨hk2, k, hk1, rfl, fun j h => by simpa using hk3 j h⟩
          · rw [← e]
            dsimp only
            have := fun h => hn (.inr h)
            omega
  · simp at h
theorem turn_zero {s t : Shs} {p q : ByteArray} {g e : Int} (h : turnB s p q g = (t, e)) (he : e ≠ 0) : t = Shs.zero := by
  unfold turnB at h
  (repeat' split at h) <;> first | exact (Prod.mk.inj h).1.symm | exact absurd (Prod.mk.inj h).2.symm he
theorem turn_right {s t : Shs} {p q : ByteArray} {g : Int} (h : turnB s p q g = (t, 0)) : rightS t = true := by
  obtain ⟨l1, x, l2, hl, _, hw, hg, hr, hpq, hgi, hep, rfl, hlen⟩ := turn_ok h
  have hr' := (rightS_iff s).1 hr
  obtain ⟨⟨e1, e2⟩, n1, all, hp⟩ := hr'
  rw [inB_iff] at hgi
  refine (rightS_iff _).2 ⟨⟨by dsimp only; omega, by dsimp only; omega⟩, hlen, ?_, ?_⟩
  · intro y hy
    dsimp only at hy ⊢
    rw [hl] at all
    have keep : ∀ z, z ∈ l1 ++ x :: l2 → (1 ≤ z.g ∧ z.g ≤ 4) ∧ (1 ≤ z.e ∧ z.e ≤ s.ep + 1) := fun z hz => by
      obtain ⟨h1, h2, h3⟩ := all z hz
      exact ⟨h1, h2, by omega⟩
    rcases List.mem_append.1 hy with m | m
    · exact keep y (List.mem_append_left _ m)
    · rcases List.mem_append.1 m with m | m
      · unfold partedL at m
        obtain ⟨z, _, ez⟩ := List.mem_map.1 m
        have hx := keep x (by simp)
        split at ez
        · rw [← ez]; exact ⟨hgi, by dsimp only; omega, by dsimp only; omega⟩
        · rw [← ez]; exact hx
      · exact keep y (by simp [m])
  · rw [hl] at hp
    exact turn_parts p q g (s.ep + 1) hp
/-- The turn, seen at a key. -/
theorem turn_keys {s t : Shs} {p q : ByteArray} {g : Int} (h : turnB s p q g = (t, 0)) {key : ByteArray} (hk : keyB key = true) :
    ∃ a b, ofB s key = some a ∧ ofB t key = some b ∧ (hasB p q key = true → b.g = g ∧ b.e = s.ep + 1 ∧ a.g ≠ g) ∧ (hasB p q key = false → a.g = b.g ∧ a.e = b.e) := by
  have ht := turn_right h
  obtain ⟨l1, x, l2, hl, hin, hw, hg, hr, hpq, hgi, hep, rfl, hlen⟩ := turn_ok h
  have hp := ((rightS_iff s).1 hr).2.2.2
  rw [hl] at hp
  obtain ⟨_, hx, hlo, ho⟩ := (withB_iff _ _ _ _).1 hw
  obtain ⟨a, b, ha, hb, h1, h2⟩ := turn_law g (s.ep + 1) hp hpq hlo ho hk
  refine ⟨a, b, ?_, ?_, fun hh => ?_, h2⟩
  · rw [ofB, if_pos hr, hl]; exact ha
  · rw [ofB, if_pos ht]; exact hb
  · obtain ⟨h3, h4, h5⟩ := h1 hh
    exact ⟨h3, h4, by rw [h5]; exact hg⟩
theorem of_nokey {s : Shs} {key : ByteArray} (hk : keyB key = false) : ofB s key = none := by
  unfold ofB
  split
  · exact of_none hk
  · rfl
theorem of_isSome (s : Shs) (key : ByteArray) : (ofB s key).isSome = (rightS s && keyB key) := by
  cases hk : keyB key with
  | false => rw [of_nokey hk, Bool.and_false]; rfl
  | true =>
    unfold ofB
    cases hr : rightS s with
    | false => rfl
    | true =>
      obtain ⟨a, ha, _⟩ := of_some ((rightS_iff s).1 hr).2.2.2 hk
      rw [if_pos rfl, ha]; rfl
theorem of_has {s : Shs} {key : ByteArray} {a : Shr} (h : ofB s key = some a) : hasB a.lo a.hi key = true ∧ a ∈ s.l ∧ rightS s = true := by
  unfold ofB at h
  split at h
  · rename_i hr
    exact ⟨List.find?_some (p := fun s : Shr => hasB s.lo s.hi key) h, List.mem_of_find?_eq_some h, hr⟩
  · cases h
theorem in_with {s : Shs} {p q : ByteArray} {a : Shr} (h : inS s p q = some a) : withB p q a.lo a.hi = true ∧ a ∈ s.l ∧ rightS s = true := by
  unfold inS at h
  split at h
  · rename_i hr
    exact ⟨List.find?_some (p := fun x : Shr => withB p q x.lo x.hi) h, List.mem_of_find?_eq_some h, hr⟩
  · cases h
/-- The share of a span is the share of each key that the span has. -/
theorem in_of {s : Shs} {p q key : ByteArray} {a b : Shr} (h : inS s p q = some b) (hk : hasB p q key = true) (ha : ofB s key = some a) : a = b := by
  obtain ⟨hw, hb, hr⟩ := in_with h
  obtain ⟨h1, h2, _⟩ := of_has ha
  obtain ⟨hpq, hx, hlo, ho⟩ := (withB_iff _ _ _ _).1 hw
  have hkey : keyB key = true := by
    simp only [hasB, Bool.and_eq_true] at hk
    exact hk.1.1.2
  exact uniq (one_share ((rightS_iff s).1 hr).2.2.2 hkey) h2 h1 hb (has_within hx hlo ho hk)
/-- Of right shares just one has a key. -/
theorem right_count {s : Shs} (hr : rightS s = true) (key : ByteArray) : (s.l.filter (fun x => hasB x.lo x.hi key)).length = if keyB key then 1 else 0 := by
  cases hk : keyB key with
  | true => exact one_share ((rightS_iff s).1 hr).2.2.2 hk
  | false =>
    have : s.l.filter (fun x => hasB x.lo x.hi key) = [] := by
      rw [List.filter_eq_nil_iff]
      intro x _
      simp [hasB, hk]
    rw [this]; rfl
end Go.Proofs.Ytpggnelngfpfgaa
