/- A span that is cut among spans that part: they part still. -/
import Derived.Test.YtpggnelngfpfgaaShrL
import Derived.Test.YtpggnelngfpfgaaCut
namespace Go.Proofs.Ytpggnelngfpfgaa
open Go.RowKit

/-- What may stand behind an end. -/
def TailOk (hi : ByteArray) (r : List Rw) : Prop := (noneB hi = true ∧ r = []) ∨ (noneB hi = false ∧ partsF hi false r = true)
theorem partsF_mk {s : Rw} {r : List Rw} (h1 : rightB s.k s.v = true) (h4 : TailOk s.v r) : partsF s.k false (s :: r) = true := by
  rw [partsF, h1]
  rcases h4 with ⟨hn, rfl⟩ | ⟨hn, h5⟩
  · simp [hn, partsF]
  · simp [hn, h5]
theorem none_key {k : ByteArray} (h : keyB k = true) : noneB k = false := by
  simp only [keyB, Bool.and_eq_true, decide_eq_true_eq] at h
  simp only [noneB, decide_eq_false_iff_not]
  omega
theorem cut_chain (hi : ByteArray) : ∀ (ks : List ByteArray) (lo : ByteArray) (r : List Rw), rightB lo hi = true → TailOk hi r → partsF lo false (cutL lo hi ks ++ r) = true
  | [], lo, r, h, ht => partsF_mk (s := ⟨lo, hi⟩) h ht
  | k :: ks, lo, r, h, ht => by
    rw [cutL]
    split
    · rename_i hh
      split
      · exact cut_chain hi ks lo r h ht
      · rename_i hne
        simp only [hasB, Bool.and_eq_true] at hh
        obtain ⟨⟨⟨_, hk⟩, hlo⟩, hhi⟩ := hh
        have hlo' : ltB k lo = false := by simpa using hlo
        have hlt : ltB lo k = true := by
          cases hx : ltB lo k with
          | true => rfl
          | false => exact absurd (ltB_antisymm hlo' hx) hne
        have h' := h
        simp only [rightB, Bool.and_eq_true] at h
        have r1 : rightB lo k = true := by simp [rightB, h.1, hk, hlt]
        have r2 : rightB k hi = true := by
          simp only [rightB, Bool.and_eq_true, Bool.or_eq_true] at h' ⊢
          refine ⟨.inr hk, ?_⟩
          rcases h'.2 with h2 | h2
          · exact .inl h2
          · rw [Bool.or_eq_true] at hhi
            rcases hhi with h3 | h3
            · exact .inl h3
            · exact .inr ⟨h2.1, h3⟩
        exact partsF_mk (s := ⟨lo, k⟩) r1 (.inr ⟨none_key hk, cut_chain hi ks k r r2 ht⟩)
    · exact cut_chain hi ks lo r h ht
theorem parts_replace {s : Rw} {m : List Rw} (hm : ∀ r, TailOk s.v r → partsF s.k false (m ++ r) = true) : ∀ (l1 : List Rw) (a : ByteArray) (l2 : List Rw), partsF a false (l1 ++ s :: l2) = true → partsF a false (l1 ++ (m ++ l2)) = true
  | [], a, l2, h => by
    obtain ⟨_, rfl, _, h4⟩ := partsF_cons h
    exact hm l2 h4
  | x :: l1, a, l2, h => by
    obtain ⟨h1, rfl, _, h4⟩ := partsF_cons h
    refine partsF_mk h1 ?_
    rcases h4 with ⟨_, h5⟩ | ⟨hn, h5⟩
    · cases l1 <;> cases h5
    · exact .inr ⟨hn, parts_replace hm l1 _ l2 h5⟩
theorem parts_right : ∀ (l : List Rw) (a : ByteArray), partsF a false l = true → ∀ s ∈ l, rightB s.k s.v = true
  | [], _, _, s, hs => by cases hs
  | x :: r, a, h, s, hs => by
    obtain ⟨h1, rfl, _, h4⟩ := partsF_cons h
    rcases List.mem_cons.1 hs with rfl | hs
    · exact h1
    · rcases h4 with ⟨_, rfl⟩ | ⟨_, h5⟩
      · cases hs
      · exact parts_right r _ h5 s hs
/-- Spans that part, one of them cut: they part still. -/
theorem parts_cut {l1 l2 : List Rw} {s : Rw} (h : partsB (l1 ++ s :: l2) = true) (ats : List ByteArray) : partsB (l1 ++ (cutB s.k s.v ats ++ l2)) = true := by
  have hr := parts_right _ _ h s (by simp)
  refine parts_replace (fun r ht => ?_) l1 _ l2 h
  rw [cutB, if_pos hr]
  exact cut_chain s.v _ s.k r hr ht
theorem lt_of_ne {a b : ByteArray} (h : ltB a b = false) (hne : a ≠ b) : ltB b a = true := by
  cases hx : ltB b a with
  | true => rfl
  | false => exact absurd (ltB_antisymm h hx) hne
theorem lt_of_lt_ge {a b c : ByteArray} (h : ltB a b = true) (k : ltB c b = false) : ltB a c = true := by
  cases hx : ltB a c with
  | true => rfl
  | false =>
    by_cases e : c = a
    · rw [e, h] at k; cases k
    · have := ltB_trans (lt_of_ne hx (fun h => e h.symm)) h
      rw [this] at k; cases k
theorem none_eq {a b : ByteArray} (h : noneB a = true) (k : noneB b = true) : a = b := by
  simp only [noneB, decide_eq_true_eq] at h k
  exact ByteArray.ext ((Array.eq_empty_of_size_eq_zero h).trans (Array.eq_empty_of_size_eq_zero k).symm)
theorem none_of_lt {a b : ByteArray} (h : ltB a b = true) : noneB b = false := by
  cases hb : noneB b with
  | false => rfl
  | true =>
    rw [ltB_none b (by simpa [noneB] using hb)] at h
    cases h
/-- A span that lies within a span cut at its ends is one of the parts. -/
theorem cut_in {p q hi : ByteArray} (hr : rightB p q = true) (ho : noneB hi = true ∨ (noneB q = false ∧ ltB hi q = false)) : ∀ (ks : List ByteArray) (lo : ByteArray), rightB lo hi = true → ltB p lo = false → ks.Pairwise (fun a b => ltB a b = true) → (∀ k ∈ ks, k = p ∨ k = q) → (p ≠ lo → p ∈ ks) → (q ≠ hi → q ∈ ks) → ⟨p, q⟩ ∈ cutL lo hi ks
  | [], lo, _, _, _, _, hp, hq => by
    have e1 : p = lo := Classical.byContradiction fun h => by cases hp h
    have e2 : q = hi := Classical.byContradiction fun h => by cases hq h
    rw [e1, e2]
    simp [cutL]
  | k :: ks, lo, h, hlo, hs, hm, hp, hq => by
    have hs' := List.pairwise_cons.1 hs
    have hpk : noneB p = false → keyB p = true := fun hn => by
      simp only [rightB, hn, Bool.false_or, Bool.and_eq_true] at hr
      exact hr.1
    have hqk : noneB q = false → keyB q = true ∧ ltB p q = true := fun hn => by
      simp only [rightB, hn, Bool.false_or, Bool.and_eq_true] at hr
      exact hr.2
    have hasp : p ≠ lo → hasB lo hi p = true := fun hne => by
      have hl := lt_of_ne hlo hne
      rw [has_of_right h (hpk (none_of_lt hl)), hlo]
      rcases ho with ho | ⟨h1, h2⟩
      · rw [ho]; rfl
      · rw [lt_of_lt_ge (hqk h1).2 h2]; simp
    have hnq : q ≠ hi → noneB q = false := fun hne => by
      rcases ho with ho | ⟨h1, _⟩
      · cases hx : noneB q with
        | false => rfl
        | true => exact absurd (none_eq hx ho) hne
      · exact h1
    have hlq : noneB q = false → ltB lo q = true := fun hn => by
      by_cases e : p = lo
      · rw [← e]; exact (hqk hn).2
      · exact ltB_trans (lt_of_ne hlo e) (hqk hn).2
    have lt_asymm' : ∀ {a b : ByteArray}, ltB a b = true → ltB b a = false := fun {a b} h1 => by
      cases hx : ltB b a with
      | false => rfl
      | true => have := ltB_trans h1 hx; rw [ltB_irrefl] at this; cases this
    have hasq : q ≠ hi → hasB lo hi q = true := fun hne => by
      have hn := hnq hne
      rw [has_of_right h (hqk hn).1, lt_asymm' (hlq hn)]
      rcases ho with ho | ⟨_, h2⟩
      · rw [ho]; rfl
      · rw [lt_of_ne h2 (fun e => hne e.symm)]; simp
    rw [cutL]
    split
    · rename_i hh
      split
      · rename_i e
        refine cut_in hr ho ks lo h hlo hs'.2 (fun k hk => hm k (by simp [hk])) (fun hne => ?_) (fun hne => ?_)
        · rcases List.mem_cons.1 (hp hne) with e' | h'
          · exact absurd (e'.trans e) hne
          · exact h'
        · rcases List.mem_cons.1 (hq hne) with e' | h'
          · have := hlq (hnq hne)
            rw [e', e, ltB_irrefl] at this
            cases this
          · exact h'
      · rename_i hne
        have hh' := hh
        simp only [hasB, Bool.and_eq_true] at hh
        obtain ⟨⟨⟨_, hk⟩, hlo2⟩, hhi⟩ := hh
        by_cases e : k = p
        · subst e
          have r2 : rightB k hi = true := by
            have h' := h
            simp only [rightB, Bool.and_eq_true, Bool.or_eq_true] at h' ⊢
            refine ⟨.inr hk, ?_⟩
            rcases h'.2 with h2 | h2
            · exact .inl h2
            · rw [Bool.or_eq_true] at hhi
              rcases hhi with h3 | h3
              · exact .inl h3
              · exact .inr ⟨h2.1, h3⟩
          refine List.mem_cons_of_mem _ (cut_in hr ho ks k r2 (ltB_irrefl k) hs'.2 (fun k' hk' => hm k' (by simp [hk'])) (fun h => absurd rfl h) (fun hne' => ?_))
          rcases List.mem_cons.1 (hq hne') with e' | h'
          · have := (hqk (hnq hne')).2
            rw [e', ltB_irrefl] at this
            cases this
          · exact h'
        · have hkq : k = q := (hm k (by simp)).resolve_left e
          have hpl : p = lo := Classical.byContradiction fun hne' => by
            rcases List.mem_cons.1 (hp hne') with e' | h'
            · exact e e'.symm
            · have h1 := hs'.1 p h'
              have h2 := (hqk (by rw [← hkq]; exact none_key hk)).2
              rw [hkq] at h1
              have := ltB_trans h1 h2
              rw [ltB_irrefl] at this
              cases this
          rw [hpl, hkq]
          exact List.mem_cons_self
    · rename_i hh
      refine cut_in hr ho ks lo h hlo hs'.2 (fun k hk => hm k (by simp [hk])) (fun hne => ?_) (fun hne => ?_)
      · rcases List.mem_cons.1 (hp hne) with e' | h'
        · rw [← e'] at hh; exact absurd (hasp hne) hh
        · exact h'
      · rcases List.mem_cons.1 (hq hne) with e' | h'
        · rw [← e'] at hh; exact absurd (hasq hne) hh
        · exact h'
theorem cut_within {lo hi p q : ByteArray} (hx : rightB lo hi = true) (hr : rightB p q = true) (hlo : ltB p lo = false) (ho : noneB hi = true ∨ (noneB q = false ∧ ltB hi q = false)) : ⟨p, q⟩ ∈ cutB lo hi [p, q] := by
  rw [cutB, if_pos hx]
  exact cut_in hr ho (keysU [p, q]) lo hx hlo (keysU_rising _) (fun k hk => by simpa using (keysU_mem _ _).1 hk) (fun _ => (keysU_mem _ _).2 (by simp)) (fun _ => (keysU_mem _ _).2 (by simp))
/-- What a span within another has, the other has. -/
theorem has_within {lo hi p q k : ByteArray} (hx : rightB lo hi = true) (hlo : ltB p lo = false) (ho : noneB hi = true ∨ (noneB q = false ∧ ltB hi q = false)) (h : hasB p q k = true) : hasB lo hi k = true := by
  simp only [hasB, Bool.and_eq_true] at h
  obtain ⟨⟨⟨hr, hk⟩, h1⟩, h2⟩ := h
  have h1' : ltB k p = false := by simpa using h1
  rw [has_of_right hx hk]
  have e1 : ltB k lo = false := by
    cases hc : ltB k lo with
    | false => rfl
    | true => rw [lt_of_lt_ge hc hlo] at h1'; cases h1'
  rw [e1]
  rcases ho with ho | ⟨hn, hq⟩
  · rw [ho]; rfl
  · rw [hn, Bool.false_or] at h2
    rw [lt_of_lt_ge h2 hq]; simp
end Go.Proofs.Ytpggnelngfpfgaa
