/- A span cut one cut behind the other (the document's way) is the span cut at the rising keys; spans that part, told by neighbours. Plain law. -/
import Derived.Test.YtpggnelngfpfgaaShrC
namespace Go.Proofs.Ytpggnelngfpfgaa
open Go.RowKit

def insCut (k : ByteArray) : List Rw → List Rw
  | [] => []
  | x :: r => if hasB x.k x.v k = true ∧ k ≠ x.k then ⟨x.k, k⟩ :: ⟨k, x.v⟩ :: r else x :: insCut k r
def cutR (lo hi : ByteArray) (ats : List ByteArray) : List Rw := if rightB lo hi then ats.foldl (fun l k => insCut k l) [⟨lo, hi⟩] else []
def chainL (lo hi : ByteArray) : List ByteArray → List Rw
  | [] => [⟨lo, hi⟩]
  | p :: ps => ⟨lo, p⟩ :: chainL p hi ps
/-- Does a key cut the span? -/
def Insd (lo hi k : ByteArray) : Prop := keyB k = true ∧ ltB lo k = true ∧ (noneB hi = true ∨ ltB k hi = true)
instance (lo hi k : ByteArray) : Decidable (Insd lo hi k) := by unfold Insd; infer_instance
theorem lt_asym {a b : ByteArray} (h : ltB a b = true) : ltB b a = false := by
  cases hx : ltB b a with
  | false => rfl
  | true => have := ltB_trans h hx; rw [ltB_irrefl] at this; cases this
theorem insd_iff {lo hi : ByteArray} (hr : rightB lo hi = true) (k : ByteArray) : (hasB lo hi k = true ∧ k ≠ lo) ↔ Insd lo hi k := by
  simp only [hasB, hr, Bool.true_and, Bool.and_eq_true, Bool.or_eq_true, Bool.not_eq_true', Insd]
  constructor
  · rintro ⟨⟨⟨h1, h2⟩, h3⟩, h4⟩
    exact ⟨h1, lt_of_ne h2 h4, h3⟩
  · rintro ⟨h1, h2, h3⟩
    exact ⟨⟨⟨h1, lt_asym h2⟩, h3⟩, fun e => by rw [e, ltB_irrefl] at h2; cases h2⟩
theorem right_low {lo hi k : ByteArray} (hr : rightB lo hi = true) (hk : Insd lo hi k) : rightB k hi = true := by
  simp only [rightB, Bool.and_eq_true, Bool.or_eq_true] at hr ⊢
  refine ⟨.inr hk.1, ?_⟩
  rcases hr.2 with h2 | h2
  · exact .inl h2
  · rcases hk.2.2 with h3 | h3
    · exact .inl h3
    · exact .inr ⟨h2.1, h3⟩
theorem right_high {lo hi k : ByteArray} (hr : rightB lo hi = true) (hk : Insd lo hi k) : rightB lo k = true := by
  simp only [rightB, Bool.and_eq_true, Bool.or_eq_true] at hr ⊢
  exact ⟨hr.1, .inr ⟨hk.1, hk.2.1⟩⟩
theorem cutL_chain (hi : ByteArray) : ∀ (ks : List ByteArray) (lo : ByteArray), rightB lo hi = true → ks.Pairwise (fun a b => ltB a b = true) → cutL lo hi ks = chainL lo hi (ks.filter (fun k => decide (Insd lo hi k)))
  | [], lo, _, _ => rfl
  | k :: ks, lo, hr, hs => by
    have hs' := List.pairwise_cons.1 hs
    rw [cutL, List.filter_cons]
    have hi' := insd_iff hr k
    by_cases h1 : hasB lo hi k = true
    · rw [if_pos h1]
      by_cases h2 : k = lo
      · rw [if_pos h2, if_neg (by
          rw [decide_eq_true_eq, ← hi']
          exact fun h => h.2 h2)]
        exact cutL_chain hi ks lo hr hs'.2
      · have hk := hi'.1 ⟨h1, h2⟩
        rw [if_neg h2, if_pos (decide_eq_true hk), chainL, cutL_chain hi ks k (right_low hr hk) hs'.2]
        congr 2
        refine List.filter_congr fun x hx => ?_
        have hkx := hs'.1 x hx
        have e : Insd k hi x ↔ Insd lo hi x := ⟨fun h => ⟨h.1, ltB_trans hk.2.1 hkx, h.2.2⟩, fun h => ⟨h.1, hkx, h.2.2⟩⟩
        simp only [e]
    · rw [if_neg h1, if_neg (by
        rw [decide_eq_true_eq, ← hi']
        exact fun h => h1 h.1)]
      exact cutL_chain hi ks lo hr hs'.2
def insS (k : ByteArray) : List ByteArray → List ByteArray
  | [] => [k]
  | p :: ps => if k = p then p :: ps else if ltB k p then k :: p :: ps else p :: insS k ps
theorem insS_mem (k x : ByteArray) : ∀ ps, x ∈ insS k ps ↔ x = k ∨ x ∈ ps
  | [] => by simp [insS]
  | p :: ps => by
    rw [insS]
    split
    · rename_i h; subst h; simp
    · split
      · simp
      · rw [List.mem_cons, insS_mem k x ps, List.mem_cons]
        constructor
        · rintro (h | h | h) <;> simp [h]
        · rintro (h | h | h) <;> simp [h]
theorem insS_rising (k : ByteArray) : ∀ ps : List ByteArray, ps.Pairwise (fun a b => ltB a b = true) → (insS k ps).Pairwise (fun a b => ltB a b = true)
  | [], _ => by simp [insS]
  | p :: ps, h => by
    have h' := List.pairwise_cons.1 h
    rw [insS]
    split
    · exact h
    · rename_i hne
      split
      · rename_i hlt
        refine List.pairwise_cons.2 ⟨fun x hx => ?_, h⟩
        rcases List.mem_cons.1 hx with rfl | hx
        · exact hlt
        · exact ltB_trans hlt (h'.1 x hx)
      · rename_i hlt
        refine List.pairwise_cons.2 ⟨fun x hx => ?_, insS_rising k ps h'.2⟩
        rcases (insS_mem k x ps).1 hx with rfl | hx
        · exact lt_of_ne (by simpa using hlt) hne
        · exact h'.1 x hx
theorem insCut_chain (k hi : ByteArray) : ∀ (ps : List ByteArray) (lo : ByteArray), rightB lo hi = true → ps.Pairwise (fun a b => ltB a b = true) → (∀ p ∈ ps, Insd lo hi p) → insCut k (chainL lo hi ps) = chainL lo hi (if Insd lo hi k then insS k ps else ps)
  | [], lo, hr, _, _ => by
    rw [chainL, insCut]
    simp only [insd_iff hr k]
    by_cases h : Insd lo hi k
    · rw [if_pos h, if_pos h]; rfl
    · rw [if_neg h, if_neg h]; rfl
  | p :: ps, lo, hr, hs, hp => by
    have hs' := List.pairwise_cons.1 hs
    have hpp := hp p (by simp)
    have hrp := right_high hr hpp
    have ih := insCut_chain k hi ps p (right_low hr hpp) hs'.2 (fun x hx => ⟨(hp x (by simp [hx])).1, hs'.1 x hx, (hp x (by simp [hx])).2.2⟩)
    rw [chainL, insCut]
    simp only [insd_iff hrp k]
    by_cases h : Insd lo p k
    · have hkp : ltB k p = true := h.2.2.resolve_left (fun h => by rw [none_key hpp.1] at h; cases h)
      have hk : Insd lo hi k := ⟨h.1, h.2.1, hpp.2.2.imp id (fun h => ltB_trans hkp h)⟩
      have hne : k ≠ p := fun e => by rw [e, ltB_irrefl] at hkp; cases hkp
      rw [if_pos h, if_pos hk, insS, if_neg hne, if_pos hkp]
      rfl
    · rw [if_neg h, ih]
      by_cases hk : Insd lo hi k
      · have hkp : ltB k p = false := by
          cases hx : ltB k p with
          | false => rfl
          | true => exact absurd ⟨hk.1, hk.2.1, .inr hx⟩ h
        rw [if_pos hk, insS]
        by_cases e : k = p
        · have hn : ¬ Insd p hi k := fun h' => by have := h'.2.1; rw [e, ltB_irrefl] at this; cases this
          rw [if_pos e, if_neg hn]
          rfl
        · have hpk : ltB p k = true := lt_of_ne hkp e
          have hy : Insd p hi k := ⟨hk.1, hpk, hk.2.2⟩
          have hz : ¬ ltB k p = true := by rw [hkp]; simp
          rw [if_neg e, if_neg hz, if_pos hy]
          rfl
      · have hn : ¬ Insd p hi k := fun h' => hk ⟨h'.1, ltB_trans hpp.2.1 h'.2.1, h'.2.2⟩
        rw [if_neg hk, if_neg hn]
        rfl
def insF (lo hi : ByteArray) (ps : List ByteArray) (k : ByteArray) : List ByteArray := if Insd lo hi k then insS k ps else ps
theorem fold_chain {lo hi : ByteArray} (hr : rightB lo hi = true) : ∀ (ats ps : List ByteArray), ps.Pairwise (fun a b => ltB a b = true) → (∀ p ∈ ps, Insd lo hi p) →
    ats.foldl (fun l k => insCut k l) (chainL lo hi ps) = chainL lo hi (ats.foldl (insF lo hi) ps) ∧ (ats.foldl (insF lo hi) ps).Pairwise (fun a b => ltB a b = true) ∧ ∀ x, x ∈ ats.foldl (insF lo hi) ps ↔ (x ∈ ats ∧ Insd lo hi x) ∨ x ∈ ps
  | [], ps, hs, hp => ⟨rfl, hs, fun x => by simp⟩
  | k :: ats, ps, hs, hp => by
    have hs2 : (insF lo hi ps k).Pairwise (fun a b => ltB a b = true) := by
      unfold insF; split
      · exact insS_rising k ps hs
      · exact hs
    have hm : ∀ x, x ∈ insF lo hi ps k ↔ (x = k ∧ Insd lo hi x) ∨ x ∈ ps := fun x => by
      unfold insF
      split
      · rename_i h
        rw [insS_mem]
        constructor
        · rintro (rfl | h')
          · exact .inl ⟨rfl, h⟩
          · exact .inr h'
        · rintro (⟨h', _⟩ | h')
          · exact .inl h'
          · exact .inr h'
      · rename_i h
        constructor
        · exact .inr
        · rintro (⟨rfl, h'⟩ | h')
          · exact absurd h' h
          · exact h'
    obtain ⟨h1, h2, h3⟩ := fold_chain hr ats (insF lo hi ps k) hs2 (fun p h => ((hm p).1 h).elim (fun h => h.2) (fun h => hp p h))
    refine ⟨?_, h2, fun x => ?_⟩
    · rw [List.foldl_cons, List.foldl_cons, ← h1, insCut_chain k hi ps lo hr hs hp]
      rfl
    · rw [List.foldl_cons, h3, hm, List.mem_cons]
      constructor
      · rintro (⟨a, b⟩ | ⟨a, b⟩ | a)
        · exact .inl ⟨.inr a, b⟩
        · exact .inl ⟨.inl a, b⟩
        · exact .inr a
      · rintro (⟨a | a, b⟩ | a)
        · exact .inr (.inl ⟨a, b⟩)
        · exact .inl ⟨a, b⟩
        · exact .inr (.inr a)
theorem rising_ext : ∀ l1 l2 : List ByteArray, l1.Pairwise (fun a b => ltB a b = true) → l2.Pairwise (fun a b => ltB a b = true) → (∀ k, k ∈ l1 ↔ k ∈ l2) → l1 = l2
  | [], l2, _, _, h => by
    cases l2 with
    | nil => rfl
    | cons b r => have := (h b).2 (by simp); cases this
  | a :: l1, [], _, _, h => by have := (h a).1 (by simp); cases this
  | a :: l1, b :: l2, h1, h2, h => by
    have h1' := List.pairwise_cons.1 h1
    have h2' := List.pairwise_cons.1 h2
    have e : a = b := by
      rcases List.mem_cons.1 ((h a).1 (by simp)) with e | m
      · exact e
      · rcases List.mem_cons.1 ((h b).2 (by simp)) with e | m'
        · exact e.symm
        · have x := h2'.1 a m
          have y := h1'.1 b m'
          rw [lt_asym x] at y; cases y
    subst e
    rw [rising_ext l1 l2 h1'.2 h2'.2 (fun k => ?_)]
    constructor
    · intro m
      rcases List.mem_cons.1 ((h k).1 (by simp [m])) with e | m'
      · have := h1'.1 k m; rw [e, ltB_irrefl] at this; cases this
      · exact m'
    · intro m
      rcases List.mem_cons.1 ((h k).2 (by simp [m])) with e | m'
      · have := h2'.1 k m; rw [e, ltB_irrefl] at this; cases this
      · exact m'
/-- The two ways of cutting, at cuts of which those that cut are the same. -/
theorem cutR_eq (lo hi : ByteArray) (ats ats' : List ByteArray) (h : ∀ k, keyB k = true → (k ∈ ats ↔ k ∈ ats')) : cutR lo hi ats = cutB lo hi ats' := by
  unfold cutR cutB
  cases hr : rightB lo hi with
  | false => rfl
  | true =>
    rw [if_pos rfl, if_pos rfl, cutL_chain hi _ lo hr (keysU_rising _)]
    obtain ⟨h1, h2, h3⟩ := fold_chain hr ats [] List.Pairwise.nil (fun p h => by cases h)
    rw [show [(⟨lo, hi⟩ : Rw)] = chainL lo hi [] from rfl, h1]
    congr 1
    refine rising_ext _ _ h2 ((keysU_rising _).filter _) fun k => ?_
    rw [h3, List.mem_filter, keysU_mem, decide_eq_true_eq]
    constructor
    · rintro (⟨a, b⟩ | a)
      · exact ⟨(h k b.1).1 a, b⟩
      · cases a
    · rintro ⟨a, b⟩
      exact .inl ⟨(h k b.1).2 a, b⟩

/-- Spans, each right, each beginning where the last one ends. -/
def chainB : List Rw → Bool
  | [] => true
  | [s] => rightB s.k s.v
  | s :: t :: r => rightB s.k s.v && !noneB s.v && decide (s.v = t.k) && chainB (t :: r)
def partsR (l : List Rw) : Bool := match l.head?, l.getLast? with
  | some s, some t => noneB s.k && noneB t.v && chainB l
  | _, _ => false
theorem noneB_empty (a : ByteArray) : noneB a = decide (a = ByteArray.empty) := by
  rw [Bool.eq_iff_iff, decide_eq_true_eq]
  constructor
  · intro h; exact none_eq h (by decide)
  · rintro rfl; decide
theorem partsF_chain : ∀ (r : List Rw) (s : Rw) (a : ByteArray), partsF a false (s :: r) = (decide (s.k = a) && noneB ((s :: r).getLast (by simp)).v && chainB (s :: r))
  | [], s, a => by
    simp only [partsF, chainB, List.getLast_singleton, decide_true, Bool.or_true, Bool.and_true, Bool.not_false]
    cases rightB s.k s.v <;> cases decide (s.k = a) <;> cases noneB s.v <;> rfl
  | t :: r, s, a => by
    rw [partsF, chainB, List.getLast_cons (by simp)]
    have hd : decide (t :: r = []) = false := by simp
    rw [hd]
    cases hn : noneB s.v with
    | true => simp
    | false =>
      rw [partsF_chain r t s.v]
      have : decide (t.k = s.v) = decide (s.v = t.k) := by simp [eq_comm]
      rw [this]
      cases rightB s.k s.v <;> cases decide (s.k = a) <;> cases decide (s.v = t.k) <;> simp
theorem partsR_eq (l : List Rw) : partsR l = partsB l := by
  cases l with
  | nil => rfl
  | cons s r =>
    unfold partsR partsB
    rw [partsF_chain, List.head?_cons, List.getLast?_eq_some_getLast (by simp)]
    dsimp only
    rw [noneB_empty]
end Go.Proofs.Ytpggnelngfpfgaa
