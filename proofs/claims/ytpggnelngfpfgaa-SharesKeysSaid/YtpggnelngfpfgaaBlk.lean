/- Builtins over a block that is known whole: copy, append in place, append of zeros, clear. No program in it. -/
import Derived.Test.YtpggnelngfpfgaaWk
import Derived.Laws.CopyOwn
import Derived.Lib.AppendZerosOnto
import Derived.Lib.Overlaps
namespace Go.Proofs.Ytpggnelngfpfgaa
open Go.RowKit

theorem setRow_fr (w : World) (g : Nat) (cs : Array Value) : Fr (fun k => k = g) w (w.setRow g cs) :=
  ⟨rfl, rfl, rfl, by simp [World.setRow], fun k _ hk => setRow_other w g k cs (fun e => hk e)⟩
theorem splice_take {α : Type} {L A cs : List α} {off : Nat} (h : L.take off = A) (hf : off ≤ L.length) : (splice L off cs).take (off + cs.length) = A ++ cs := by
  have hl : A.length = off := by rw [← h, List.length_take, Nat.min_eq_left hf]
  rw [splice, h, ← List.append_assoc, ← hl, ← List.length_append]
  exact List.take_left
theorem splice_two {α : Type} (L D X : List α) (o k : Nat) (hk : X.length = k) (hf : o + k + D.length ≤ L.length) : (splice (splice L (o + k) D) o X).take (o + k + D.length) = L.take o ++ X ++ D := by
  have h1 : (L.take (o + k)).length = o + k := by rw [List.length_take]; omega
  have e1 : (splice L (o + k) D).take o = L.take o := by
    rw [splice, List.take_append_of_le_length (by omega), List.take_take, Nat.min_eq_left (by omega)]
  have e2 : (splice L (o + k) D).drop (o + k) = D ++ L.drop (o + k + D.length) := by
    rw [splice]
    exact List.drop_left' h1
  rw [splice, e1, hk, e2]
  have hl : (L.take o ++ X ++ D).length = o + k + D.length := by simp; omega
  rw [← hl, show L.take o ++ (X ++ (D ++ L.drop (L.take o ++ X ++ D).length)) = (L.take o ++ X ++ D) ++ L.drop (L.take o ++ X ++ D).length by simp]
  exact List.take_left
theorem Blk.shape {w : World} {b : Nat} {cs : List Value} {T : TypeId} (h : Blk w b cs T) : w.shape? b = some (T, cs.length) := by
  simp [World.shape?, show w.heap[b]? = _ from h]
section
variable {P : Program} {w : World}
theorem run_store_blk {g off : Nat} {cur cs : List Value} {T : TypeId} (hb : Blk w g cur T) (hfit : off + cs.length ≤ cur.length) (h1 : ∀ u ∈ cs, u.oneCell' = true) :
    ∃ w', (storeCells ⟨g, off, none⟩ cs).run P w = .ok () w' ∧ Blk w' g (splice cur off cs) T ∧ Fr (fun k => k = g) w w' := by
  have h := run_storeCells_at P g off T cs 0 cur.toArray w hb (by simpa using hfit) h1
  refine ⟨_, h, ?_, setRow_fr w g _⟩
  have := setRow_heap w g cur.toArray ((cur.toArray.toList.take (off + 0) ++ cs ++ cur.toArray.toList.drop (off + 0 + cs.length)).toArray) T _ hb
  simpa [Blk, splice] using this
theorem run_copy_blk {dT sT ty e : TypeId} {sz : Nat} (hu : P.underlying dT = some (.slice e)) (hs : (P.info? e).map (·.size) = some sz)
    {g off dl dc : Nat} {cur cs : List Value} {T : TypeId} (hb : Blk w g cur T) {ad : Addr} {m c : Nat} (hn : cs.length = Nat.min m dl * sz)
    (hsrc : ∀ j v, cs[j]? = some v → w.cell? (ad.add j) = some v) (hfit : off + cs.length ≤ cur.length) (h1 : ∀ u ∈ cs, u.oneCell' = true) :
    ∃ w', (Builtin.copy_ #[dT, sT] ty #[.slice (some ⟨g, off, none⟩) dl dc, .slice (some ad) m c]).run P w = .ok (goInt (Nat.min m dl)) w' ∧ Blk w' g (splice cur off cs) T ∧ Fr (fun k => k = g) w w' := by
  obtain ⟨i, hi, hsz⟩ := Option.map_eq_some_iff.1 hs
  obtain ⟨w', h2, h3, h4⟩ := run_store_blk (P := P) hb hfit h1
  refine ⟨w', ?_, h3, h4⟩
  have hl := run_loadCells_list (P := P) w ad cs hsrc
  simp [Builtin.copy_, run_underlying hu, Builtin.lenOf, Builtin.firstCells, sizeOf, typeInfo, hi, hsz, ← hn, hl, h2]
/-- 'append' where there is room: the block is written in place. -/
theorem run_append_blk {t ty e : TypeId} {sz : Nat} (ht : P.underlying t = some (.slice e)) (hs : (P.info? e).map (·.size) = some sz)
    {g n cap : Nat} {cur cs : List Value} {T : TypeId} (hb : Blk w g cur T) {ad : Addr} {m c : Nat} (hn : cs.length = m * sz) (hroom : n + m ≤ cap)
    (hsrc : ∀ j v, cs[j]? = some v → w.cell? (ad.add j) = some v) (hfit : n * sz + cs.length ≤ cur.length) (h1 : ∀ u ∈ cs, u.oneCell' = true) :
    ∃ w', (Builtin.append_ #[t, t] ty #[.slice (some ⟨g, 0, none⟩) n cap, .slice (some ad) m c]).run P w = .ok (.slice (some ⟨g, 0, none⟩) (n + m) cap) w' ∧ Blk w' g (splice cur (n * sz) cs) T ∧ Fr (fun k => k = g) w w' := by
  obtain ⟨i, hi, hsz⟩ := Option.map_eq_some_iff.1 hs
  obtain ⟨w', h2, h3, h4⟩ := run_store_blk (P := P) (off := n * sz) hb hfit h1
  refine ⟨w', ?_, h3, h4⟩
  have hl := run_loadCells_list (P := P) w ad cs hsrc
  have ha : (⟨g, 0, none⟩ : Addr).add (n * sz) = ⟨g, n * sz, none⟩ := by rw [addr_add, Nat.zero_add]
  simp [Builtin.append_, run_underlying ht, sizeOf, typeInfo, hi, hsz, Builtin.lenOf, Builtin.firstCells, hroom, ← hn, hl, ha, h2]
theorem run_clear_blk {t ty e : TypeId} {sz : Nat} {z : Value} (ht : P.underlying t = some (.slice e)) (hs : (P.info? e).map (fun i => (i.zero, i.size)) = some (some z, sz)) (hz : z.cells.size = sz) (hz1 : ∀ u ∈ z.cells, u.oneCell' = true) (h0 : 0 < sz)
    {g off n c : Nat} {cur : List Value} {T : TypeId} (hb : Blk w g cur T) (hfit : off + n * sz ≤ cur.length) :
    ∃ w', (Builtin.clear_ #[t] ty #[.slice (some ⟨g, off, none⟩) n c]).run P w = .ok (.tuple #[]) w' ∧ (∃ cur', Blk w' g cur' T ∧ cur'.length = cur.length ∧ cur'.take off = cur.take off) ∧ Fr (fun k => k = g) w w' := by
  obtain ⟨i, hi, hsz⟩ := Option.map_eq_some_iff.1 hs
  simp only [Prod.mk.injEq] at hsz
  have hlen : (Builtin.zeroCells z.cells n).toList.length = n * sz := by rw [Array.length_toList, size_zeroCells, hz]
  have h1 : ∀ u ∈ (Builtin.zeroCells z.cells n).toList, u.oneCell' = true := by
    intro u hu
    simp only [Builtin.zeroCells, Array.toList_map, List.mem_map] at hu
    obtain ⟨j, _, rfl⟩ := hu
    have hj : j % z.cells.size < z.cells.size := Nat.mod_lt _ (by omega)
    rw [getElem!_pos z.cells _ hj]
    exact hz1 _ (Array.getElem_mem hj)
  obtain ⟨w', h2, h3, h4⟩ := run_store_blk (P := P) (off := off) hb (by rw [hlen]; exact hfit) h1
  by_cases hn : n = 0
  · subst hn
    exact ⟨w, by simp [Builtin.clear_, run_underlying ht], ⟨cur, hb, rfl, rfl⟩, Fr.refl _ _⟩
  refine ⟨w', ?_, ⟨_, h3, length_splice _ _ _ (by rw [hlen]; exact hfit), ?_⟩, h4⟩
  · obtain ⟨n, rfl⟩ : ∃ m, n = m + 1 := ⟨n - 1, by omega⟩
    simp [Builtin.clear_, run_underlying ht, zeroValue, typeInfo, hi, hsz.1, h2]
  · simp only [splice]
    rw [List.take_append_of_le_length (by simp; omega), List.take_take, Nat.min_self]
/-- 'append(s, make([]T, k)...)' where it grows. -/
theorem run_zeros_blk {t tn ty e : TypeId} {sz bytes : Nat} {z : Value} {kn : IntKind} (ht : P.underlying t = some (.slice e)) (htn : P.underlying tn = some (.int kn)) (hs : (P.info? e).map (fun i => (i.zero, i.size, i.bytes)) = some (some z, sz, bytes)) (hz : z.cells.size = sz) (h0 : 0 < sz)
    {g n cap k : Nat} {olds : List Value} (hold : ∀ j u, olds[j]? = some u → w.cell? ((⟨g, 0, none⟩ : Addr).add j) = some u) (hl : olds.length = n * sz) (hk : 0 < k) (hg : cap < n + k) (hb : (n + k) * bytes ≤ 140737488355328) (h63 : n + k ≤ 140737488355328) :
    ∃ w' cap' cur', (Builtin.append_ #[t, tn] ty #[.slice (some ⟨g, 0, none⟩) n cap, .int .i64 k]).run P w = .ok (.slice (some ⟨w.heap.size, 0, none⟩) (n + k) cap') w' ∧
      Blk w' w.heap.size cur' e ∧ n + k ≤ cap' ∧ cap' ≤ maxLen ∧ cur'.length = cap' * sz ∧ cur'.take (n * sz) = olds ∧ Fr Nix w w' := by
  obtain ⟨i, hi, hq⟩ := Option.map_eq_some_iff.1 hs
  simp only [Prod.mk.injEq] at hq
  obtain ⟨hq1, hq2, hq3⟩ := hq
  have hl' : (Builtin.firstCells i.size n (.slice (some ⟨g, 0, none⟩) n cap)).run P w.drew = .ok olds.toArray w.drew := by
    have := run_loadCells_list (P := P) w.drew ⟨g, 0, none⟩ olds hold
    simpa [Builtin.firstCells, hq2, ← hl] using this
  have hr := Lib.run_append_grow_zeros (P := P) w t tn ty e i z .i64 kn ht htn hi hq1 (some ⟨g, 0, none⟩) n cap olds hl' k hk (by omega) hg (by omega) (by rw [hq3]; have : k * bytes ≤ (n + k) * bytes := Nat.mul_le_mul_right _ (by omega); omega) (by rw [hq3]; exact growslice_fits (by omega) hb)
  have hge := grownCap_ge w (n + k) cap e
  have hcm : grownCap w (n + k) cap e ≤ maxLen := grownCap_le_maxLen w (n + k) cap e (by simp only [maxLen]; omega)
  refine ⟨_, _, (olds.toArray ++ Builtin.zeroCells z.cells k ++ Builtin.zeroCells z.cells (grownCap w (n + k) cap e - (n + k))).toList, hr, ?_, hge, hcm, ?_, ?_, ?_⟩
  · have := heap_alloc_new w.drew (.cells (olds.toArray ++ Builtin.zeroCells z.cells k ++ Builtin.zeroCells z.cells (grownCap w (n + k) cap e - (n + k))) e)
    rw [Blk, Array.toArray_toList]; exact this
  · simp only [Array.length_toList, Array.size_append, List.size_toArray, size_zeroCells, hz, hl, ← Nat.add_mul]
    congr 1
    omega
  · simp only [Array.toList_append, List.append_assoc]
    rw [← hl]
    exact List.take_left
  · exact ((Fr.refl Nix w).drew).alloc _

theorem wp_copy_run {ops : Array Oper} {rest : List Oper} {o : Oper} {a : Act} {Q : Exit → Act → World → Prop} (hgd : o.guard = none) (d s : Operand) (dT sT : TypeId)
    (ho : o.op = .call { callee := .builtin .copy, args := #[d, s], argTypes := #[dT, sT] }) (vd vs : Value) (hd : a.eval d = vd) (hs : a.eval s = vs)
    (v' : Value) (w' : World) (hr : (Builtin.copy_ #[dT, sT] o.type #[vd, vs]).run P w = .ok v' w') (h : wpList P ops Q rest (a.put o.dst v') w') : wpList P ops Q (o :: rest) a w := by
  refine wpList_plain hgd fun K hK => ?_
  unfold Oper.wp execOp
  simp only [ho, resolve, invoke, builtin, Sem.run_bind, Sem.run_pure, Result.andThen_ok, List.map_toArray, List.map_cons, List.map_nil, hd, hs, hr]
  exact hK _ _ h
theorem step_copy_run {ops : Array Oper} {o : Oper} {a : Act} {K : Act → World → Prop} {Q : Exit → Act → World → Prop} (hgd : o.guard = none) (d s : Operand) (dT sT : TypeId)
    (ho : o.op = .call { callee := .builtin .copy, args := #[d, s], argTypes := #[dT, sT] }) (vd vs : Value) (hd : a.eval d = vd) (hs : a.eval s = vs)
    (v' : Value) (w' : World) (hr : (Builtin.copy_ #[dT, sT] o.type #[vd, vs]).run P w = .ok v' w') (h : K (a.put o.dst v') w') :
    if Region.wanted o (yielded ops a.tmps) = true then Oper.wp P o a w K Q else K (a.put o.dst undef) w := by
  rw [if_pos (by simp [Region.wanted, hgd])]
  unfold Oper.wp execOp
  simp only [ho, resolve, invoke, builtin, Sem.run_bind, Sem.run_pure, Result.andThen_ok, List.map_toArray, List.map_cons, List.map_nil, hd, hs, hr]
  exact h
theorem step_append_run {ops : Array Oper} {o : Oper} {a : Act} {K : Act → World → Prop} {Q : Exit → Act → World → Prop} (hgd : o.guard = none) (s x : Operand) (t tn : TypeId)
    (ho : o.op = .call { callee := .builtin .append, args := #[s, x], argTypes := #[t, tn] }) (vs vx : Value) (hs : a.eval s = vs) (hx : a.eval x = vx)
    (v' : Value) (w' : World) (hr : (Builtin.append_ #[t, tn] o.type #[vs, vx]).run P w = .ok v' w') (h : K (a.put o.dst v') w') :
    if Region.wanted o (yielded ops a.tmps) = true then Oper.wp P o a w K Q else K (a.put o.dst undef) w := by
  rw [if_pos (by simp [Region.wanted, hgd])]
  exact Lib.wp_append_run w s x t tn ho vs vx hs hx v' w' hr h
theorem wp_clear_run {ops : Array Oper} {rest : List Oper} {o : Oper} {a : Act} {Q : Exit → Act → World → Prop} (hgd : o.guard = none) (x : Operand) (t : TypeId)
    (ho : o.op = .call { callee := .builtin .clear, args := #[x], argTypes := #[t] }) (vx : Value) (hx : a.eval x = vx)
    (v' : Value) (w' : World) (hr : (Builtin.clear_ #[t] o.type #[vx]).run P w = .ok v' w') (h : wpList P ops Q rest (a.put o.dst v') w') : wpList P ops Q (o :: rest) a w := by
  refine wpList_plain hgd fun K hK => ?_
  unfold Oper.wp execOp
  simp only [ho, resolve, invoke, builtin, Sem.run_bind, Sem.run_pure, Result.andThen_ok, List.map_toArray, List.map_cons, List.map_nil, hx, hr]
  exact hK _ _ h
end
end Go.Proofs.Ytpggnelngfpfgaa
