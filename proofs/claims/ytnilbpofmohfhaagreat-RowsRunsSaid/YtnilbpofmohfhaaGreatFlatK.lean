/- Rows with marks; append that leaves the shorter slices over the same block as they were. -/
import Derived.Test.YtnilbpofmohfhaaGreatMark
import Derived.Test.YtnilbpofmohfhaaGreatKept
import Derived.Test.YtnilbpofmohfhaaGreatRowW
namespace Go.Proofs.YtnilbpofmohfhaaGreat
open Go.RowKit

def mkL (k n : Nat) : List Rw := (List.range n).map (markR k)
theorem mkL_length (k n : Nat) : (mkL k n).length = n := by simp [mkL]
theorem mkL_get (k n i : Nat) (h : i < (mkL k n).length) : (mkL k n)[i] = markR k i := by simp [mkL]
theorem mkL_succ (k n : Nat) : mkL k (n + 1) = mkL k n ++ [markR k n] := by simp [mkL, List.range_succ]
theorem mkL_add (k n m : Nat) : mkL k (n + m) = mkL k n ++ (List.range m).map (fun i => markR k (n + i)) := by
  unfold mkL
  rw [List.range_add, List.map_append, List.map_map]
  rfl
theorem mkL_take (k n i : Nat) (h : i ≤ n) : (mkL k n).take i = mkL k i := by
  unfold mkL
  rw [← List.map_take, List.take_range, Nat.min_eq_left h]

theorem ownR_keep {w w' : World} {g n : Nat} {cur : List Value} {cs : List Value} {s : Value} {M : List Rw} (hb : Blk w g cur 48) (hb' : Blk w' g (splice cur (n * 2) cs) 48) (hf : Fr (fun k => k = g) w w')
    (hfit : n * 2 + cs.length ≤ cur.length) (hs : OwnR w s M) (hM : ∀ b, s.ownBlock = some b → b = g → M.length ≤ n) : OwnR w' s M := by
  rcases hs.cases with ⟨rfl, rfl⟩ | ⟨g', cap', cur', rfl, h0, h1, h2, h3, h4⟩
  · exact World.ownsRow_nil _ _ _ _
  · by_cases e : g' = g
    · subst e
      have hcur : cur' = cur := by
        have e1 : w.heap[g']? = some (.cells cur'.toArray 48 (0, 0)) := h0
        have e2 : w.heap[g']? = some (.cells cur.toArray 48 (0, 0)) := hb
        rw [e1] at e2
        simp only [Option.some.injEq, Obj.cells.injEq] at e2
        simpa using congrArg Array.toList e2.1
      subst hcur
      have hl := hM g' rfl rfl
      refine OwnR.of_blk hb' h1 h2 (by rw [length_splice _ _ _ hfit]; exact h3) ?_
      rw [← h4]
      unfold splice
      rw [List.take_append_of_le_length (by rw [List.length_take]; omega), List.take_take, Nat.min_eq_left (by omega)]
    · exact hs.mono hf (fun k hk h => e (by cases hk; exact h))

theorem append_keep (w : World) (v : Value) (L : List Rw) (ho : OwnR w v L) (A : Option Addr) (c : Nat) (xs : List Rw) (hs : RdR w (.slice A xs.length c) xs) (hx : 0 < xs.length) (hB : L.length + xs.length ≤ 1000000) (ty : TypeId) :
    ∃ v' w', (Builtin.append_ #[29, 29] ty #[v, .slice A xs.length c]).run Tryz.prog w = .ok v' w' ∧ OwnR w' v' (L ++ xs) ∧ Fr (Foot v) w w' ∧ (v'.ownBlock = v.ownBlock ∨ v'.ownBlock = some w.heap.size) ∧
      (∀ s M, OwnR w s M → (∀ b, s.ownBlock = some b → v.ownBlock = some b → M.length ≤ L.length) → OwnR w' s M) := by
  obtain ⟨i0, hi0, hz0, hz1, hz2⟩ := info_parts infoRow
  obtain ⟨hl, h1c, A', cap', e, h0, hc⟩ := hs.src
  cases e
  obtain ⟨ad, rfl⟩ : ∃ ad, A = some ad := by
    cases A with
    | none => have := h0 rfl; omega
    | some ad => exact ⟨ad, rfl⟩
  have hcell := hc ad rfl
  rcases ho.cases with ⟨rfl, rfl⟩ | ⟨g, cap, cur, rfl, hbl, h1, h2, h3, h4⟩
  · obtain ⟨v', w', hr, ho', hg, _, hat⟩ := run_append_own_at (P := Tryz.prog) w 0 29 ty 48 i0 _ 2 32 Tryz.underlying29 hi0 hz0 hz1 hz2 rfl (by decide) _ _ _ ho ad xs.length c (cellsR xs) hl hcell h1c (by simp only [maxLen]; simp at hB ⊢; omega) (by simp at hB ⊢; omega) (Nat.zero_le _)
    have hf : Fr Nix w w' := (grown_fr hg).mono (fun k _ h => by simp [Foot, Value.ownBlock] at h)
    refine ⟨v', w', hr, ?_, hf.any, hat, fun s M hsM _ => hsM.mono hf (fun _ _ h => h)⟩
    show w'.ownsRow _ _ _ _ _ _
    have hcn : cellsR ([] : List Rw) = [] := rfl
    rw [hcn] at ho'
    simpa using ho'
  · by_cases hroom : L.length + xs.length ≤ cap
    · have hfit : L.length * 2 + (cellsR xs).length ≤ cur.length := by rw [cellsR_length, h3]; omega
      obtain ⟨w', hr, hb', hf⟩ := run_append_blk (P := Tryz.prog) (ty := ty) Tryz.underlying29 (by kernel_rfl) hbl (sz := 2) (m := xs.length) (c := c) hl hroom hcell hfit h1c
      refine ⟨_, w', hr, ?_, hf.mono (fun k _ h => by rw [h]; rfl), .inl rfl, fun s M hsM hM => ownR_keep hbl hb' hf hfit hsM (fun b hb e => hM b hb (by rw [e]; rfl))⟩
      have hlen : (L ++ xs).length = L.length + xs.length := List.length_append
      have := OwnR.of_blk (xs := L ++ xs) hb' (by rw [hlen]; exact hroom) h2 (by rw [length_splice _ _ _ hfit]; exact h3) (by
        have h5 := splice_take (L := cur) (cs := cellsR xs) h4 (by omega)
        rw [cellsR_length, ← cellsR_append] at h5
        rw [hlen, Nat.add_mul]
        exact h5)
      rwa [hlen] at this
    · have hown := ho
      have hr := run_append_grow (P := Tryz.prog) (w := w) 29 ty 48 i0 _ Tryz.underlying29 hi0 hz0 ⟨g, 0, none⟩ L.length cap (cellsR L) (by rw [hz1, cellsR_length])
        (fun j u hj => by
          have := World.ownsRow.cells ho (g := g) rfl j u hj
          exact this) ad xs.length c (cellsR xs) (by rw [hz1, cellsR_length]) hcell (by omega) (by omega) (by
            rw [hz2]
            have := nextslicecap_le (need := L.length + xs.length) (old := cap) (by omega)
            omega)
      refine ⟨_, _, hr, ?_, ((Fr.refl _ w).drew).alloc _, .inr rfl, fun s M hsM _ => hsM.mono (((Fr.refl Nix w).drew).alloc _) (fun _ _ h => h)⟩
      have hlen : (L ++ xs).length = L.length + xs.length := List.length_append
      have hge := grownCap_ge w (L.length + xs.length) cap 48
      have hbk := Blk.new w.drew (cellsR L ++ cellsR xs ++ (Builtin.zeroCells (Value.agg #[.string ⟨#[]⟩, .string ⟨#[]⟩]).cells (grownCap w (L.length + xs.length) cap 48 - (L.length + xs.length))).toList) 48
      have e : (cellsR L ++ cellsR xs ++ (Builtin.zeroCells (Value.agg #[.string ⟨#[]⟩, .string ⟨#[]⟩]).cells (grownCap w (L.length + xs.length) cap 48 - (L.length + xs.length))).toList).toArray = (cellsR L).toArray ++ (cellsR xs).toArray ++ Builtin.zeroCells (Value.agg #[.string ⟨#[]⟩, .string ⟨#[]⟩]).cells (grownCap w (L.length + xs.length) cap 48 - (L.length + xs.length)) := by
        simp
      rw [e] at hbk
      have := OwnR.of_blk (xs := L ++ xs) hbk (by rw [hlen]; exact hge) (grownCap_le_maxLen w _ cap _ (by simp only [maxLen]; omega)) (by
        simp only [List.length_append, cellsR_length, Array.length_toList, size_zeroCells]
        have hz : (Value.agg #[Value.string ⟨#[]⟩, Value.string ⟨#[]⟩]).cells.size = 2 := rfl
        rw [hz]
        omega) (by
        rw [hlen, Nat.add_mul, ← cellsR_append]
        rw [List.take_append_of_le_length (by rw [cellsR_length]; simp; omega), List.take_of_length_le (by rw [cellsR_length]; simp; omega)])
      rwa [hlen] at this
end Go.Proofs.YtnilbpofmohfhaaGreat
