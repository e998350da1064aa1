/- Of, In: the share of a key, of a span. -/
import Derived.Test.YtpggnelngfpfgaaShX
namespace Go.Proofs.Ytpggnelngfpfgaa
open Go.RowKit

set_option maxRecDepth 100000 in
set_option maxHeartbeats 4000000 in
/-- The share of a key. -/
theorem of_any (w : World) (ep : Int) (v : Value) (xs : List Shr) (key : ByteArray) (hv : RdSh w v xs) (hl : xs.length ≤ 1000000000) :
    Calls Try.prog 16 #[.agg #[.int .i64 ep, v], .string key] w fun e w' => e = .returned (.tuple #[((ofB ⟨ep, xs⟩ key).getD Shr.zero).val, .bool (ofB ⟨ep, xs⟩ key).isSome]) ∧ Fr Nix w w' := by
  obtain ⟨A, c, rfl⟩ := hv.form
  have HV := Lib.hid hv
  clear hv
  have hO : Hid ((atS (fun s => hasB s.k s.v key) ⟨ep, xs⟩ = -1 ∧ ofB ⟨ep, xs⟩ key = none) ∨ ∃ i, ∃ h : i < xs.length, atS (fun s => hasB s.k s.v key) ⟨ep, xs⟩ = (i : Int) ∧ ofB ⟨ep, xs⟩ key = some xs[i]) := at_share (fun s => hasB s.k s.v key) ⟨ep, xs⟩
  have HAT := fun W (hw : Fr Nix w W) (hc : W.cell? ⟨w.heap.size + 1, 0, none⟩ = some (.string key)) => Lib.hid (at_any W ep (.slice A xs.length c) xs 44 #[.pointer (some ⟨w.heap.size + 1, 0, none⟩)] (fun s => hasB s.k s.v key) (HV.out.nix hw) hl (fun W' s h => of1_any s _ key W' (h.cell' hc)) egOf)
  have HS := fun W (h : Fr Nix w W) => Lib.hid (share_any W ep (.slice A xs.length c) xs (HV.out.nix h) _ _ hO.out)
  clear hO
  generalize (ofB ⟨ep, xs⟩ key).isSome = bb at HS ⊢
  generalize (ofB ⟨ep, xs⟩ key).getD Shr.zero = y at HS ⊢
  generalize atS (fun s => hasB s.k s.v key) ⟨ep, xs⟩ = kk at HS HAT
  obtain ⟨ylo, yhi, yg, ye⟩ := y
  unfold Shr.val at HS ⊢
  dsimp only at HS ⊢
  go_enter Try.func16, Try.ntmps16
  go_wp2_with fail
  generalize hW0 : World.alloc (World.alloc (World.alloc (World.alloc w _) _) _) _ = W0
  have q0 : W0.drew.cell? ⟨w.heap.size + 1 + 1 + 1, 0, none⟩ = some (.int .i64 ep) := by subst hW0; go_simp
  have q1 : W0.drew.cell? ⟨w.heap.size + 1 + 1 + 1, 1, none⟩ = some (.slice A xs.length c) := by subst hW0; go_simp
  have q2 : W0.drew.cell? ⟨w.heap.size + 1 + 1, 0, none⟩ = some (.string ⟨#[]⟩) := by subst hW0; go_simp
  have q3 : W0.drew.cell? ⟨w.heap.size + 1 + 1, 1, none⟩ = some (.string ⟨#[]⟩) := by subst hW0; go_simp
  have q4 : W0.drew.cell? ⟨w.heap.size + 1 + 1, 2, none⟩ = some (.int .i64 0) := by subst hW0; go_simp
  have q5 : W0.drew.cell? ⟨w.heap.size + 1 + 1, 3, none⟩ = some (.int .i64 0) := by subst hW0; go_simp
  have qf : ∀ i, W0.drew.frozen? ⟨w.heap.size + 1 + 1, i, none⟩ = false := fun i => by subst hW0; go_simp
  have FW : Fr Nix w W0.drew := by subst hW0; repeat (first | exact Fr.refl _ _ | refine Fr.alloc ?_ _ | refine Fr.drew ?_)
  have p0 : W0.drew.cell? ⟨w.heap.size + 1, 0, none⟩ = some (.string key) := by subst hW0; go_simp
  clear hW0
  go_region_held3 (fun X => X.cell? ⟨w.heap.size + 1 + 1 + 1, 0, none⟩ = some (.int .i64 ep) ∧ X.cell? ⟨w.heap.size + 1 + 1 + 1, 1, none⟩ = some (.slice A xs.length c)) (first | go_keep | (constructor; assumption; assumption))
    (first
      | (go_at_call 43; refine (HS w1 F1.out).out.mono ?_; rintro e w2 ⟨rfl, h2⟩; have t0 : w2.cell? ⟨w.heap.size + 1 + 1 + 1, 0, none⟩ = some (.int .i64 ep) := h2.cell' s0; have t1 : w2.cell? ⟨w.heap.size + 1 + 1 + 1, 1, none⟩ = some (.slice A xs.length c) := h2.cell' s1; have u0 : w2.cell? ⟨w.heap.size + 1 + 1, 0, none⟩ = some (.string ⟨#[]⟩) := h2.cell' r0; have u1 : w2.cell? ⟨w.heap.size + 1 + 1, 1, none⟩ = some (.string ⟨#[]⟩) := h2.cell' r1; have u2 : w2.cell? ⟨w.heap.size + 1 + 1, 2, none⟩ = some (.int .i64 0) := h2.cell' r2; have u3 : w2.cell? ⟨w.heap.size + 1 + 1, 3, none⟩ = some (.int .i64 0) := h2.cell' r3; have g : ∀ i, w2.frozen? ⟨w.heap.size + 1 + 1, i, none⟩ = false := fun i => (h2.frozen (p := ⟨w.heap.size + 1 + 1, i, none⟩) (show w.heap.size + 1 + 1 < w1.heap.size from World.block_lt_of_cell? _ _ r0) (fun h => h)).trans (f i); have g0 := g 0; have g1 := g 1; have g2 := g 2; have g3 := g 3; clear g)
      | (go_at_call 31; refine (HAT _ FW p0).out.mono ?_; rintro e w1 ⟨rfl, h1⟩; have s0 : w1.cell? ⟨w.heap.size + 1 + 1 + 1, 0, none⟩ = some (.int .i64 ep) := h1.cell' q0; have s1 : w1.cell? ⟨w.heap.size + 1 + 1 + 1, 1, none⟩ = some (.slice A xs.length c) := h1.cell' q1; have r0 : w1.cell? ⟨w.heap.size + 1 + 1, 0, none⟩ = some (.string ⟨#[]⟩) := h1.cell' q2; have r1 : w1.cell? ⟨w.heap.size + 1 + 1, 1, none⟩ = some (.string ⟨#[]⟩) := h1.cell' q3; have r2 : w1.cell? ⟨w.heap.size + 1 + 1, 2, none⟩ = some (.int .i64 0) := h1.cell' q4; have r3 : w1.cell? ⟨w.heap.size + 1 + 1, 3, none⟩ = some (.int .i64 0) := h1.cell' q5; have f : ∀ i, w1.frozen? ⟨w.heap.size + 1 + 1, i, none⟩ = false := fun i => (h1.frozen (p := ⟨w.heap.size + 1 + 1, i, none⟩) (show w.heap.size + 1 + 1 < W0.drew.heap.size from World.block_lt_of_cell? _ _ q2) (fun h => h)).trans (qf i); have F1 : Hid (Fr Nix w w1) := FW.nix h1))
  all_goals
    go_wp2_with fail
    have FF : Fr Nix w w2 := F1.out.nix h2
    have hs1 := h1.size
    refine bodyPost_ret (v := .tuple #[.agg #[.string ylo, .string yhi, .int .i64 yg, .int .i64 ye], .bool bb]) (by simp [results, Try.results16, go_sem, *]; try rfl) rfl ⟨rfl, ?_⟩
    repeat (first | exact FF | refine Fr.alloc ?_ _ | refine Fr.drew ?_ | refine Fr.setCell ?_ (.inl (by simp; omega)) _)
set_option maxRecDepth 100000 in
set_option maxHeartbeats 4000000 in
/-- The share of a span. -/
theorem inS_any (w : World) (ep : Int) (v : Value) (xs : List Shr) (p q : ByteArray) (hv : RdSh w v xs) (hl : xs.length ≤ 1000000000) :
    Calls Try.prog 19 #[.agg #[.int .i64 ep, v], .agg #[.string p, .string q]] w fun e w' => e = .returned (.tuple #[((inS ⟨ep, xs⟩ p q).getD Shr.zero).val, .bool (inS ⟨ep, xs⟩ p q).isSome]) ∧ Fr Nix w w' := by
  obtain ⟨A, c, rfl⟩ := hv.form
  have HV := Lib.hid hv
  clear hv
  have hO : Hid ((atS (fun s => withB p q s.k s.v) ⟨ep, xs⟩ = -1 ∧ inS ⟨ep, xs⟩ p q = none) ∨ ∃ i, ∃ h : i < xs.length, atS (fun s => withB p q s.k s.v) ⟨ep, xs⟩ = (i : Int) ∧ inS ⟨ep, xs⟩ p q = some xs[i]) := at_share (fun s => withB p q s.k s.v) ⟨ep, xs⟩
  have HAT := fun W (hw : Fr Nix w W) (hc0 : W.cell? ⟨w.heap.size + 1, 0, none⟩ = some (.string p)) (hc1 : W.cell? ⟨w.heap.size + 1, 1, none⟩ = some (.string q)) => Lib.hid (at_any W ep (.slice A xs.length c) xs 48 #[.pointer (some ⟨w.heap.size + 1, 0, none⟩)] (fun s => withB p q s.k s.v) (HV.out.nix hw) hl (fun W' s h => in1_any s _ p q W' (h.cell' hc0) (h.cell' hc1)) egIn)
  have HS := fun W (h : Fr Nix w W) => Lib.hid (share_any W ep (.slice A xs.length c) xs (HV.out.nix h) _ _ hO.out)
  clear hO
  generalize (inS ⟨ep, xs⟩ p q).isSome = bb at HS ⊢
  generalize (inS ⟨ep, xs⟩ p q).getD Shr.zero = y at HS ⊢
  generalize atS (fun s => withB p q s.k s.v) ⟨ep, xs⟩ = kk at HS HAT
  obtain ⟨ylo, yhi, yg, ye⟩ := y
  unfold Shr.val at HS ⊢
  dsimp only at HS ⊢
  go_enter Try.func19, Try.ntmps19
  go_wp2_with fail
  generalize hW0 : World.alloc (World.alloc (World.alloc (World.alloc w _) _) _) _ = W0
  have q0 : W0.drew.cell? ⟨w.heap.size + 1 + 1 + 1, 0, none⟩ = some (.int .i64 ep) := by subst hW0; go_simp
  have q1 : W0.drew.cell? ⟨w.heap.size + 1 + 1 + 1, 1, none⟩ = some (.slice A xs.length c) := by subst hW0; go_simp
  have q2 : W0.drew.cell? ⟨w.heap.size + 1 + 1, 0, none⟩ = some (.string ⟨#[]⟩) := by subst hW0; go_simp
  have q3 : W0.drew.cell? ⟨w.heap.size + 1 + 1, 1, none⟩ = some (.string ⟨#[]⟩) := by subst hW0; go_simp
  have q4 : W0.drew.cell? ⟨w.heap.size + 1 + 1, 2, none⟩ = some (.int .i64 0) := by subst hW0; go_simp
  have q5 : W0.drew.cell? ⟨w.heap.size + 1 + 1, 3, none⟩ = some (.int .i64 0) := by subst hW0; go_simp
  have qf : ∀ i, W0.drew.frozen? ⟨w.heap.size + 1 + 1, i, none⟩ = false := fun i => by subst hW0; go_simp
  have FW : Fr Nix w W0.drew := by subst hW0; repeat (first | exact Fr.refl _ _ | refine Fr.alloc ?_ _ | refine Fr.drew ?_)
  have p0 : W0.drew.cell? ⟨w.heap.size + 1, 0, none⟩ = some (.string p) := by subst hW0; go_simp
  have p1 : W0.drew.cell? ⟨w.heap.size + 1, 1, none⟩ = some (.string q) := by subst hW0; go_simp
  clear hW0
  go_region_held3 (fun X => X.cell? ⟨w.heap.size + 1 + 1 + 1, 0, none⟩ = some (.int .i64 ep) ∧ X.cell? ⟨w.heap.size + 1 + 1 + 1, 1, none⟩ = some (.slice A xs.length c)) (first | go_keep | (constructor; assumption; assumption))
    (first
      | (go_at_call 43; refine (HS w1 F1.out).out.mono ?_; rintro e w2 ⟨rfl, h2⟩; have t0 : w2.cell? ⟨w.heap.size + 1 + 1 + 1, 0, none⟩ = some (.int .i64 ep) := h2.cell' s0; have t1 : w2.cell? ⟨w.heap.size + 1 + 1 + 1, 1, none⟩ = some (.slice A xs.length c) := h2.cell' s1; have u0 : w2.cell? ⟨w.heap.size + 1 + 1, 0, none⟩ = some (.string ⟨#[]⟩) := h2.cell' r0; have u1 : w2.cell? ⟨w.heap.size + 1 + 1, 1, none⟩ = some (.string ⟨#[]⟩) := h2.cell' r1; have u2 : w2.cell? ⟨w.heap.size + 1 + 1, 2, none⟩ = some (.int .i64 0) := h2.cell' r2; have u3 : w2.cell? ⟨w.heap.size + 1 + 1, 3, none⟩ = some (.int .i64 0) := h2.cell' r3; have g : ∀ i, w2.frozen? ⟨w.heap.size + 1 + 1, i, none⟩ = false := fun i => (h2.frozen (p := ⟨w.heap.size + 1 + 1, i, none⟩) (show w.heap.size + 1 + 1 < w1.heap.size from World.block_lt_of_cell? _ _ r0) (fun h => h)).trans (f i); have g0 := g 0; have g1 := g 1; have g2 := g 2; have g3 := g 3; clear g)
      | (go_at_call 31; refine (HAT _ FW p0 p1).out.mono ?_; rintro e w1 ⟨rfl, h1⟩; have s0 : w1.cell? ⟨w.heap.size + 1 + 1 + 1, 0, none⟩ = some (.int .i64 ep) := h1.cell' q0; have s1 : w1.cell? ⟨w.heap.size + 1 + 1 + 1, 1, none⟩ = some (.slice A xs.length c) := h1.cell' q1; have r0 : w1.cell? ⟨w.heap.size + 1 + 1, 0, none⟩ = some (.string ⟨#[]⟩) := h1.cell' q2; have r1 : w1.cell? ⟨w.heap.size + 1 + 1, 1, none⟩ = some (.string ⟨#[]⟩) := h1.cell' q3; have r2 : w1.cell? ⟨w.heap.size + 1 + 1, 2, none⟩ = some (.int .i64 0) := h1.cell' q4; have r3 : w1.cell? ⟨w.heap.size + 1 + 1, 3, none⟩ = some (.int .i64 0) := h1.cell' q5; have f : ∀ i, w1.frozen? ⟨w.heap.size + 1 + 1, i, none⟩ = false := fun i => (h1.frozen (p := ⟨w.heap.size + 1 + 1, i, none⟩) (show w.heap.size + 1 + 1 < W0.drew.heap.size from World.block_lt_of_cell? _ _ q2) (fun h => h)).trans (qf i); have F1 : Hid (Fr Nix w w1) := FW.nix h1))
  all_goals
    go_wp2_with fail
    have FF : Fr Nix w w2 := F1.out.nix h2
    have hs1 := h1.size
    refine bodyPost_ret (v := .tuple #[.agg #[.string ylo, .string yhi, .int .i64 yg, .int .i64 ye], .bool bb]) (by simp [results, Try.results19, go_sem, *]; try rfl) rfl ⟨rfl, ?_⟩
    repeat (first | exact FF | refine Fr.alloc ?_ _ | refine Fr.drew ?_ | refine Fr.setCell ?_ (.inl (by simp; omega)) _)
end Go.Proofs.Ytpggnelngfpfgaa
