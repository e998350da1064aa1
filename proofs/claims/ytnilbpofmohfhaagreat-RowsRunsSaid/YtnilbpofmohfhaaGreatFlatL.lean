/- flatLines tells that lists of rows lie apart. -/
import Derived.Test.YtnilbpofmohfhaaGreatFlatK
import Derived.Test.YtnilbpofmohfhaaGreatRefP
namespace Go.Proofs.YtnilbpofmohfhaaGreat
open Go.RowKit
attribute [local go_sem ↓] Go.wp_at_zero Go.wp_at_succ

/-- The lists: K slices S k of N k rows each, each in a block of its own, none in gb. -/
structure Lists (w : World) (gb K : Nat) (S : Nat → Value) (N : Nat → Nat) : Prop where
  cell : ∀ k, k < K → w.cell? ⟨gb, k, none⟩ = some (S k)
  own : ∀ k, k < K → ∃ ys, OwnR w (S k) ys ∧ ys.length = N k
  small : ∀ k, k < K → N k ≤ 400
  sep : ∀ i j b, i < K → j < K → (S i).ownBlock = some b → (S j).ownBlock = some b → i = j
  base : ∀ k, k < K → (S k).ownBlock ≠ some gb
  lt : gb < w.heap.size
def FootL (K : Nat) (S : Nat → Value) : Nat → Prop := fun b => ∃ k, k < K ∧ (S k).ownBlock = some b

theorem rd_at {w : World} {g n c : Nat} {xs : List Rw} (h : RdR w (.slice (some ⟨g, 0, none⟩) n c) xs) (i : Nat) (hi : i < xs.length) : w.cell? ⟨g, i * 2, none⟩ = some (.string xs[i].k) ∧ w.cell? ⟨g, i * 2 + 1, none⟩ = some (.string xs[i].v) := by
  have := h.at' i hi
  simp only [Nat.zero_add] at this
  exact this.2
/-- One row of an owned slice written. -/
theorem own_set {w : World} {g n c : Nat} {ys : List Rw} (ho : OwnR w (.slice (some ⟨g, 0, none⟩) n c) ys) (i : Nat) (hi : i < ys.length) (x : Rw) :
    OwnR ((w.setCell ⟨g, i * 2, none⟩ (.string x.k)).setCell ⟨g, i * 2 + 1, none⟩ (.string x.v)) (.slice (some ⟨g, 0, none⟩) n c) (ys.set i x) := by
  rcases ho.cases with ⟨h, _⟩ | ⟨g', cap', cur, e, hbl, h1, h2, h3, h4⟩
  · cases h
  · cases e
    have hb2 := (hbl.set (i * 2) (.string x.k)).set (i * 2 + 1) (.string x.v)
    have := OwnR.of_blk (xs := ys.set i x) hb2 (by rw [List.length_set]; exact h1) h2 (by simp [h3]) (by
      rw [List.length_set, take_set_set _ _ _ _ _ (by omega), h4, cellsR_set])
    rwa [List.length_set] at this
theorem own_form {w : World} {v : Value} {ys : List Rw} (ho : OwnR w v ys) (h : 0 < ys.length) : ∃ g c, v = .slice (some ⟨g, 0, none⟩) ys.length c ∧ g < w.heap.size ∧ (∀ i, i < ys.length → w.frozen? ⟨g, i * 2, none⟩ = false ∧ w.frozen? ⟨g, i * 2 + 1, none⟩ = false) := by
  rcases ho.cases with ⟨_, h0⟩ | ⟨g, c, cur, e, hbl, _⟩
  · rw [h0] at h; cases h
  · exact ⟨g, c, e, hbl.lt, fun i _ => ⟨hbl.frozen _, hbl.frozen _⟩⟩
theorem take_set_mk {ys : List Rw} {k i : Nat} (h : ys.take i = mkL k i) (hi : i < ys.length) : (ys.set i (markR k i)).take (i + 1) = mkL k (i + 1) := by
  rw [mkL_succ, ← h, List.take_succ_eq_append_getElem (by simpa using hi), List.getElem_set_self, List.take_set_of_le (Nat.le_refl _)]

theorem infoLs : (Tryz.prog.info? 29).map (fun i => (i.zero, i.size, i.bytes)) = some (some (.slice none 0 0), 1, 24) := by kernel_rfl
set_option maxRecDepth 100000 in
set_option maxHeartbeats 16000000 in
theorem flatLines_any (w : World) (gb K cb : Nat) (S : Nat → Value) (N : Nat → Nat) (h : Lists w gb K S N) (hK : K ≤ 1000) :
    Calls Tryz.prog 69 #[.slice (some ⟨gb, 0, none⟩) K cb] w fun e w' => e = .returned (.bool true) ∧ Fr (FootL K S) w w' := by
  obtain ⟨i0, hi0, hz0, hz1, hz2⟩ := info_parts infoRow
  have HL := Lib.hid h
  have P0 : Hid (Fr (FootL K S) w w ∧ ∀ j, j < K → ∃ ys, OwnR w (S j) ys ∧ ys.length = N j ∧ (j < 0 → ys = mkL j (N j))) := ⟨Fr.refl _ _, fun j hj => by obtain ⟨ys, h1, h2⟩ := h.own j hj; exact ⟨ys, h1, h2, fun h => by omega⟩⟩
  have HC : Hid (∀ wr, Fr (FootL K S) w wr → ∀ k, k < K → wr.cell? ⟨gb, k, none⟩ = some (S k)) := fun wr hf k hk => (hf.cell (p := ⟨gb, k, none⟩) h.lt (fun ⟨j, hj, e⟩ => h.base j hj e)).trans (h.cell k hk)
  clear h
  go_enter Tryz.func69, Tryz.ntmps69
  go_wp2_with fail
  go_loopg [3] K (fun gg s3 wr => ∃ k : Nat, k ≤ K ∧ K - k ≤ gg ∧ s3 = .int .i64 k ∧ Hid (Fr (FootL K S) w wr ∧ ∀ j, j < K → ∃ ys, OwnR wr (S j) ys ∧ ys.length = N j ∧ (j < k → ys = mkL j (N j))))
  case atStart => exact ⟨0, Nat.zero_le _, by omega, rfl, P0.out⟩
  case round =>
    clear P0
    obtain ⟨k, hk, hg, rfl, H⟩ := hrel
    by_cases hlt : k < K
    · have hlti : (k : Int) < (K : Int) := by omega
      have P1 : Hid (Fr (FootL K S) w wr ∧ ∀ j, j < K → ∃ ys, OwnR wr (S j) ys ∧ ys.length = N j ∧ (j < k → ys = mkL j (N j)) ∧ (j = k → ys.take 0 = mkL k 0)) := ⟨H.out.1, fun j hj => by
        obtain ⟨ys, h1, h2, h3⟩ := H.out.2 j hj
        exact ⟨ys, h1, h2, h3, fun _ => rfl⟩⟩
      have hN := HL.out.small k hlt
      obtain ⟨A, c, hS⟩ : ∃ A c, S k = .slice A (N k) c := by
        obtain ⟨ys, h1, h2, _⟩ := H.out.2 k hlt
        obtain ⟨_, A, c, e, _⟩ := h1.rd
        exact ⟨A, c, by rw [e, h2]⟩
      have HSk := Lib.hid hS
      have HCk : Hid (∀ wr', Fr (FootL K S) w wr' → wr'.cell? ⟨gb, k, none⟩ = some (.slice A (N k) c)) := fun wr' hf => by rw [HC.out wr' hf k hlt, hS]
      clear H hS
      go_wp2_with fail
      go_loopg [4] (N k) (fun gg s4 wr => ∃ i : Nat, i ≤ N k ∧ N k - i ≤ gg ∧ s4 = .int .i64 i ∧ Hid (Fr (FootL K S) w wr ∧ ∀ j, j < K → ∃ ys, OwnR wr (S j) ys ∧ ys.length = N j ∧ (j < k → ys = mkL j (N j)) ∧ (j = k → ys.take i = mkL k i)))
      case atStart => exact ⟨0, Nat.zero_le _, by omega, rfl, P1.out⟩
      case round =>
        clear P1
        obtain ⟨i, hi, hgi, rfl, H⟩ := hrel
        have x0 := HCk.out wr H.out.1
        by_cases hli : i < N k
        · have hlii : (i : Int) < ((N k : Nat) : Int) := by omega
          obtain ⟨ys, o1, o2, o3, o4⟩ := H.out.2 k hlt
          obtain ⟨g, c', hg1, hg2, hg3⟩ := own_form o1 (by omega)
          rw [HSk.out] at hg1
          simp only [Value.slice.injEq] at hg1
          obtain ⟨rfl, hNy, rfl⟩ := hg1
          have HNy := Lib.hid hNy
          clear hNy
          have HM := fun W => Lib.hid (markRow_any W k i (by omega) (by omega))
          unfold Rw.val at HM
          have O1 := Lib.hid o1
          have hrd := rd_at (by rw [HSk.out] at o1; exact o1.rd) i (by omega)
          have hfr := hg3 i (by omega)
          clear hg3
          obtain ⟨q0, e0⟩ : ∃ q, Value.string (ys[i]'(by omega)).k = q := ⟨_, rfl⟩
          obtain ⟨q1, e1⟩ : ∃ q, Value.string (ys[i]'(by omega)).v = q := ⟨_, rfl⟩
          rw [e0, e1] at hrd
          clear e0 e1
          obtain ⟨y0, y1⟩ := hrd
          obtain ⟨f0, f1⟩ := hfr
          have O2 := Lib.hid (And.intro o2 (And.intro o3 o4))
          have hgb : ¬ g = gb := fun e => HL.out.base k hlt (by rw [HSk.out, e]; rfl)
          have hgb' : ¬ gb = g := fun e => hgb e.symm
          clear o1 o2 o3 o4
          go_wp2_with fail
          go_region_held3 (fun X => X.cell? ⟨gb, k, none⟩ = some (.slice (some ⟨g, 0, none⟩) (N k) c)) (first | go_keep | assumption)
            (first
              | (go_at_call 52; refine (HM _).out.mono ?_; rintro e w4 ⟨rfl, h4⟩; have x1 : w4.cell? ⟨gb, k, none⟩ = some (.slice (some ⟨g, 0, none⟩) (N k) c) := h4.cell' (by go_simp); have z0 : w4.cell? ⟨g, i * 2, none⟩ = some q0 := h4.cell' (by go_simp); have z1 : w4.cell? ⟨g, i * 2 + 1, none⟩ = some q1 := h4.cell' (by go_simp); have z2 : w4.frozen? ⟨g, i * 2, none⟩ = false := (h4.frozen (p := ⟨g, i * 2, none⟩) hg2 (fun h => h)).trans f0; have z3 : w4.frozen? ⟨g, i * 2 + 1, none⟩ = false := (h4.frozen (p := ⟨g, i * 2 + 1, none⟩) hg2 (fun h => h)).trans f1))
          all_goals
            go_wp2_with fail
            go_roundg (N k - (i + 1))
            case measure => omega
            case rel =>
              have hsk : (S k).ownBlock = some g := by rw [HSk.out]; rfl
              have ho4 : OwnR w4 (.slice (some ⟨g, 0, none⟩) (N k) c) ys := by
                have := O1.out.mono (Fr.undrew h4) (fun _ _ h => h)
                rwa [HSk.out] at this
              have hset := own_set ho4 i (by have := HNy.out; omega) (markR k i)
              have FS : Fr (fun b => b = g) wr ((w4.setCell ⟨g, i * 2, none⟩ (.string (markR k i).k)).setCell ⟨g, i * 2 + 1, none⟩ (.string (markR k i).v)) :=
                (((Fr.undrew h4).any : Fr (fun b => b = g) wr w4).setCell (p := ⟨g, i * 2, none⟩) (.inr rfl) _).setCell (p := ⟨g, i * 2 + 1, none⟩) (.inr rfl) _
              refine ⟨i + 1, by omega, by omega, by go_num, H.out.1.then FS (fun b _ e => ⟨k, hlt, by rw [hsk, e]⟩), fun j hj => ?_⟩
              by_cases e : j = k
              · subst e
                refine ⟨ys.set i (markR j i), by rw [HSk.out]; exact hset, by rw [List.length_set]; exact O2.out.1, fun h => by omega, fun _ => take_set_mk (by simpa using O2.out.2.2) (by have := HNy.out; omega)⟩
              · obtain ⟨ys', r1, r2, r3, r4⟩ := H.out.2 j hj
                exact ⟨ys', r1.mono FS (fun b hb h => e (HL.out.sep j k b hj hlt hb (by rw [hsk, h]))), r2, fun h => r3 (by omega), fun h => absurd h e⟩
        · obtain rfl : i = N k := by omega
          have N1 : Hid (∀ j, j < K → ∃ ys, OwnR wr (S j) ys ∧ ys.length = N j ∧ (j < k + 1 → ys = mkL j (N j))) := fun j hj => by
            obtain ⟨ys, r1, r2, r3, r4⟩ := H.out.2 j hj
            refine ⟨ys, r1, r2, fun h => ?_⟩
            by_cases e : j = k
            · subst e
              have := r4 rfl
              rw [← r2, List.take_length] at this
              rw [this, r2]
            · exact r3 (by omega)
          go_wp2_with fail
          go_roundg (K - (k + 1))
          case measure => omega
          case rel => exact ⟨k + 1, by omega, by omega, by go_num, H.out.1, N1.out⟩
    · obtain rfl : K = k := by omega
      have Q0 : Hid (∀ j, j < K → OwnR wr (S j) (mkL j (N j))) := fun j hj => by
        obtain ⟨ys, r1, r2, r3⟩ := H.out.2 j hj
        rw [← r3 hj]
        exact r1
      have F1 : Hid (Fr (FootL K S) w wr) := H.out.1
      clear H hk hg hlt
      obtain ⟨i1, hi1, hy0, hy1, hy2⟩ := info_parts infoLs
      have hrun := run_make (P := Tryz.prog) wr 44 29 i1 _ Tryz.underlying44 hi1 hy0 .i64 .i64 (K : Int) (K : Int) (by omega) (Int.le_refl _) (by rw [hy2]; omega) (by omega)
      rw [hy1] at hrun
      have ek : (K : Int).toNat = K := by omega
      rw [ek] at hrun
      clear ek hi1 hy0 hy1 hy2
      obtain ⟨W2, hW2⟩ : ∃ W2, W2 = wr.alloc (.cells (madeCells (Value.slice none 0 0).cells (K * 1)) 29) := ⟨_, rfl⟩
      rw [← hW2] at hrun
      have F2 : Hid (Fr Nix wr W2) := by show Fr Nix wr W2; rw [hW2]; exact (Fr.refl _ _).alloc _
      have B2 : Hid (∃ cur, Blk W2 wr.heap.size cur 29 ∧ cur.length = K) := by
        refine ⟨(madeCells (Value.slice none 0 0).cells (K * 1)).toList, ?_, by rw [Array.length_toList, size_madeCells]; omega⟩
        rw [hW2]
        have := Blk.new wr (madeCells (Value.slice none 0 0).cells (K * 1)).toList 29
        simpa using this
      clear hW2
      obtain ⟨G, hG⟩ : ∃ G, wr.heap.size = G := ⟨_, rfl⟩
      have HSlt : Hid (∀ i, i < K → ∀ b, (S i).ownBlock = some b → b < G) := fun i hi b hb => by rw [← hG]; exact own_lt (Q0.out i hi) b hb
      have hgG : gb < G := by have := HL.out.lt; have := F1.out.size; omega
      have hG2 : Hid (G < W2.heap.size) := by obtain ⟨cur, hb, _⟩ := B2.out; have := hb.lt; show _ < _; omega
      rw [hG] at hrun B2
      have FW : Hid (Fr (FootL K S) w W2) := F1.out.nix F2.out
      have O2 : Hid (∀ j, j < K → OwnR W2 (S j) (mkL j (N j))) := fun j hj => (Q0.out j hj).mono F2.out (fun _ _ h => h)
      have HC2 : Hid (∀ wr', Fr (fun b => FootL K S b ∨ b = G) W2 wr' → ∀ k, k < K → wr'.cell? ⟨gb, k, none⟩ = some (S k)) := fun wr' hf k hk => by
        rw [hf.cell (p := ⟨gb, k, none⟩) (by have := hG2.out; show gb < _; omega) (by
          rintro (⟨j, hj, e⟩ | e)
          · exact HL.out.base j hj e
          · have : gb = G := e
            omega)]
        exact HC.out W2 FW.out k hk
      have R0 : Hid (Fr (fun b => FootL K S b ∨ b = G) W2 W2 ∧ (∀ j, j < K → OwnR W2 (S j) (mkL j (N j))) ∧ (∃ cur, Blk W2 G cur 29 ∧ cur.length = K) ∧
          ∃ gv : Nat → Value, ∀ j, j < 0 → W2.cell? ⟨G, j, none⟩ = some (gv j) ∧ RdR W2 (gv j) (mkL j (N j + 64)) ∧ ∀ b, (gv j).ownBlock = some b → b ≠ G ∧ ∀ i, i < K → (S i).ownBlock = some b → i = j) :=
        ⟨Fr.refl _ _, O2.out, B2.out, fun _ => .slice none 0 0, fun j hj => by omega⟩
      have FW0 := F1
      clear Q0 F1 F2 B2 O2 HC
      have HG := Lib.hid hG
      have HG2 : Hid (w.heap.size ≤ G) := by rw [← hG]; exact FW0.out.size
      clear hG
      go_wp2_with fail
      clear hrun
      go_loopg [6] K (fun gg s6 wr => ∃ k : Nat, k ≤ K ∧ K - k ≤ gg ∧ s6 = .int .i64 k ∧ Hid (Fr (fun b => FootL K S b ∨ b = G) W2 wr ∧ (∀ j, j < K → OwnR wr (S j) (mkL j (N j))) ∧ (∃ cur, Blk wr G cur 29 ∧ cur.length = K) ∧
          ∃ gv : Nat → Value, ∀ j, j < k → wr.cell? ⟨G, j, none⟩ = some (gv j) ∧ RdR wr (gv j) (mkL j (N j + 64)) ∧ ∀ b, (gv j).ownBlock = some b → b ≠ G ∧ ∀ i, i < K → (S i).ownBlock = some b → i = j))
      case atStart => exact ⟨0, Nat.zero_le _, by omega, rfl, R0.out⟩
      case round =>
        clear R0
        obtain ⟨k, hk, hg, rfl, H⟩ := hrel
        by_cases hlt : k < K
        · have hlti : (k : Int) < (K : Int) := by omega
          obtain ⟨p1, p2, p3, p4⟩ := H.out
          have P1 := Lib.hid p1
          have P2 := Lib.hid p2
          have P3 := Lib.hid p3
          have P4 := Lib.hid p4
          have hN := HL.out.small k hlt
          obtain ⟨A, c, hS⟩ : ∃ A c, S k = .slice A (N k) c := by
            obtain ⟨_, A, c, e, _⟩ := (p2 k hlt).rd
            exact ⟨A, c, by rw [e, mkL_length]⟩
          have HSk := Lib.hid hS
          have HCk : Hid (∀ wr', Fr (fun b => FootL K S b ∨ b = G) W2 wr' → wr'.cell? ⟨gb, k, none⟩ = some (.slice A (N k) c)) := fun wr' hf => by rw [HC2.out wr' hf k hlt, hS]
          have x0 := HCk.out wr p1
          have I0 : Hid (Fr (fun b => (Value.slice A (N k) c).ownBlock = some b) wr wr ∧ OwnR wr (.slice A (N k) c) (mkL k (N k + 0)) ∧ OwnR wr (.slice A (N k) c) (mkL k (N k)) ∧ ((Value.slice A (N k) c).ownBlock = (Value.slice A (N k) c).ownBlock ∨ ∀ b, (Value.slice A (N k) c).ownBlock = some b → wr.heap.size ≤ b)) := by
            have := p2 k hlt
            rw [hS] at this
            exact ⟨Fr.refl _ _, this, this, .inl rfl⟩
          clear p1 p2 p3 p4 H hS
          go_wp2_with fail
          obtain ⟨W3, hW3⟩ : ∃ W3, W3 = wr := ⟨_, rfl⟩
          rw [← hW3] at P1 P2 P3 P4 I0 x0
          have HW3 := Lib.hid hW3
          rw [← hW3]
          clear hW3
          go_loopg [7, 8] 64 (fun gg s7 s8 wr => ∃ (i : Nat) (A' : Option Addr) (L' c' : Nat), i ≤ 64 ∧ 64 - i ≤ gg ∧ s8 = .int .i64 i ∧ s7 = .slice A' L' c' ∧
            Hid (Fr (fun b => (Value.slice A (N k) c).ownBlock = some b) W3 wr ∧ OwnR wr (.slice A' L' c') (mkL k (N k + i)) ∧ OwnR wr (.slice A (N k) c) (mkL k (N k)) ∧ ((Value.slice A' L' c').ownBlock = (Value.slice A (N k) c).ownBlock ∨ ∀ b, (Value.slice A' L' c').ownBlock = some b → W3.heap.size ≤ b)))
          case atStart => exact ⟨0, A, N k, c, by omega, by omega, rfl, rfl, I0.out.1, I0.out.2.1, I0.out.2.2.1, .inl rfl⟩
          case round =>
            clear I0
            obtain ⟨i, A7, L7, c7, hi, hgi, rfl, rfl, H⟩ := hrel
            obtain ⟨p1, p2, p3, p4⟩ := H.out
            have I1 := Lib.hid p1
            have I2 := Lib.hid p2
            have I3 := Lib.hid p3
            have I4 := Lib.hid p4
            have F3 : Hid (Fr (fun b => FootL K S b ∨ b = G) W2 wr) := P1.out.trans (p1.mono (fun b _ e => .inl ⟨k, hlt, by rw [HSk.out]; exact e⟩))
            clear p1 p2 p3 p4 H
            have x1 := HCk.out wr F3.out
            by_cases hli : i < 64
            · have hlii : (i : Int) < 64 := by omega
              have HM := fun W => Lib.hid (markRow_any W k (N k + i) (by omega) (by omega))
              have ec : ((N k + i : Nat) : Int) = ((N k : Nat) : Int) + (i : Int) := by omega
              rw [ec] at HM
              have hwr : IntKind.i64.wrap (((N k : Nat) : Int) + (i : Int)) = ((N k : Nat) : Int) + (i : Int) := IntWalk.i64_in _ (by omega)
              unfold Rw.val at HM
              clear ec
              go_wp2_with fail
              refine (HM _).out.mono ?_
              rintro e w4 ⟨rfl, h4⟩
              have hlen : (mkL k (N k + i)).length + [markR k (N k + i)].length ≤ 1000000 := by rw [mkL_length]; simp; omega
              obtain ⟨v5, w5, hrun, n1, n2, n3, n4⟩ := append_keep (w4.alloc (.cells #[.string (markR k (N k + i)).k, .string (markR k (N k + i)).v] 48)) _ (mkL k (N k + i)) ((I2.out.mono h4 (fun _ _ h => h)).mono ((Fr.refl Nix _).alloc _) (fun _ _ h => h)) (some ⟨w4.heap.size, 0, none⟩) 1 [markR k (N k + i)] (rd_one w4 (markR k (N k + i))) (by simp) hlen 29
              have NX : Hid (∃ A9 L9 c9, v5 = .slice A9 L9 c9 ∧ Fr (fun b => (Value.slice A7 L7 c7).ownBlock = some b) wr w5 ∧ OwnR w5 v5 (mkL k (N k + (i + 1))) ∧ OwnR w5 (.slice A (N k) c) (mkL k (N k)) ∧ (v5.ownBlock = (Value.slice A (N k) c).ownBlock ∨ ∀ b, v5.ownBlock = some b → W3.heap.size ≤ b)) := by
                rw [← mkL_succ, Nat.add_assoc] at n1
                obtain ⟨A', L', c', e⟩ := n1.form
                refine ⟨A', L', c', e, ((h4.any.alloc _).trans n2 : Fr (Foot (.slice A7 L7 c7)) wr w5), n1, n4 _ _ ((I3.out.mono h4 (fun _ _ h => h)).mono ((Fr.refl Nix _).alloc _) (fun _ _ h => h)) (fun b _ _ => by rw [mkL_length, mkL_length]; omega), ?_⟩
                rcases n3 with e | e
                · rw [e]; exact I4.out
                · right
                  intro b hb
                  rw [e] at hb
                  cases hb
                  have := I1.out.size
                  have := h4.size
                  simp
                  omega
              simp only [List.length_cons, List.length_nil, Nat.zero_add] at hrun
              clear n1 n2 n3 n4 h4 HM hlen hwr
              obtain ⟨A8, L8, c8, rfl, m1, m2, m3, m4⟩ := NX.out
              have NY : Hid (Fr (fun b => (Value.slice A (N k) c).ownBlock = some b) W3 w5 ∧ OwnR w5 (.slice A8 L8 c8) (mkL k (N k + (i + 1))) ∧ OwnR w5 (.slice A (N k) c) (mkL k (N k)) ∧ ((Value.slice A8 L8 c8).ownBlock = (Value.slice A (N k) c).ownBlock ∨ ∀ b, (Value.slice A8 L8 c8).ownBlock = some b → W3.heap.size ≤ b)) := by
                refine ⟨I1.out.then m1 (fun b hb e => ?_), m2, m3, m4⟩
                rcases I4.out with h | h
                · rw [← h]; exact e
                · have := h b e; omega
              clear m1 m2 m3 m4 NX
              generalize markR k (N k + i) = y at hrun
              go_wp2_with (at_builtin; refine wp_append_list rfl _ _ 29 29 rfl _ _ rfl rfl _ _ hrun ?_)
              clear hrun
              go_roundg (64 - (i + 1))
              case measure => omega
              case rel => exact ⟨i + 1, A8, L8, c8, by omega, by omega, by go_num, rfl, NY.out⟩
            · obtain rfl : i = 64 := by omega
              have BG : Hid (∃ cur, Blk wr G cur 29 ∧ cur.length = K) := by
                obtain ⟨cur, hb, hl⟩ := P3.out
                refine ⟨cur, hb.mono I1.out (fun e => ?_), hl⟩
                have := HSlt.out k hlt G (by rw [HSk.out]; exact e)
                omega
              obtain ⟨cur, hb, hl⟩ := BG.out
              have g0 : wr.cell? ⟨G, k, none⟩ = some (cur[k]'(by omega)) := by rw [hb.cell]; exact List.getElem?_eq_getElem (by omega)
              have g1 : wr.frozen? ⟨G, k, none⟩ = false := hb.frozen k
              have HB := Lib.hid (And.intro hb hl)
              obtain ⟨q, hq⟩ : ∃ q, cur[k]'(by omega) = q := ⟨_, rfl⟩
              rw [hq] at g0
              clear hb hl hq BG
              go_wp2_with fail
              go_roundg (K - (k + 1))
              case measure => omega
              case rel =>
                have FS : Fr (fun b => b = G) wr (wr.setCell ⟨G, k, none⟩ (.slice A7 L7 c7)) := (Fr.refl (fun b => b = G) wr).setCell (p := ⟨G, k, none⟩) (.inr rfl) _
                have h7 : ∀ b, (Value.slice A7 L7 c7).ownBlock = some b → b ≠ G ∧ ∀ i, i < K → (S i).ownBlock = some b → i = k := by
                  intro b hb
                  rcases I4.out with h | h
                  · rw [h] at hb
                    have hsb : (S k).ownBlock = some b := by rw [HSk.out]; exact hb
                    exact ⟨by have := HSlt.out k hlt b hsb; omega, fun i hi he => HL.out.sep i k b hi hlt he hsb⟩
                  · have h1 := h b hb
                    have h2 := P1.out.size
                    have h3 := hG2.out
                    exact ⟨by omega, fun i hi he => by have := HSlt.out i hi b he; omega⟩
                refine ⟨k + 1, by omega, by omega, by go_num, F3.out.trans (FS.mono (fun b _ e => .inr e)), fun j hj => ?_, ⟨_, HB.out.1.set k _, by rw [List.length_set]; exact HB.out.2⟩, ?_⟩
                · have hjb : ∀ b, (S j).ownBlock = some b → ¬ b = G := fun b hb e => by have := HSlt.out j hj b hb; omega
                  by_cases e : j = k
                  · subst e
                    have := I3.out
                    rw [← HSk.out] at this
                    exact this.mono FS hjb
                  · exact ((P2.out j hj).mono I1.out (fun b hb h => e (HL.out.sep j k b hj hlt hb (by rw [HSk.out]; exact h)))).mono FS hjb
                · obtain ⟨gv, hgv⟩ := P4.out
                  refine ⟨fun j => if j = k then .slice A7 L7 c7 else gv j, fun j hj => ?_⟩
                  by_cases e : j = k
                  · subst e
                    simp only [if_true]
                    refine ⟨cell_set _ _ _ _ g0, I2.out.rd.mono1 FS (fun b hb h => (h7 b hb).1 h), h7⟩
                  · simp only [if_neg e]
                    obtain ⟨r1, r2, r3⟩ := hgv j (by omega)
                    refine ⟨?_, (r2.mono1 I1.out (fun b hb h => e ((r3 b hb).2 k hlt (by rw [HSk.out]; exact h)).symm)).mono1 FS (fun b hb h => (r3 b hb).1 h), r3⟩
                    have hc1 : wr.cell? ⟨G, j, none⟩ = some (gv j) := (I1.out.cell (p := ⟨G, j, none⟩) (by have := P1.out.size; have := hG2.out; show G < _; omega) (fun h => by have := HSlt.out k hlt G (by rw [HSk.out]; exact h); omega)).trans r1
                    exact (World.cell?_setCell_other wr ⟨G, k, none⟩ ⟨G, j, none⟩ _ (by intro h; simp only [Addr.mk.injEq, true_and, and_true] at h; exact e h.symm)).trans hc1
        · obtain rfl : K = k := by omega
          obtain ⟨W4, hW4⟩ : ∃ W4, W4 = wr := ⟨_, rfl⟩
          subst hW4
          obtain ⟨p1, p2, p3, p4⟩ := H.out
          have P1 := Lib.hid p1
          have P2 := Lib.hid p2
          have P3 := Lib.hid p3
          have P4 := Lib.hid p4
          clear p1 p2 p3 p4 H hk hg hlt
          go_wp2_with fail
          go_loopg [9] K (fun gg s9 wr => ∃ k : Nat, k ≤ K ∧ K - k ≤ gg ∧ s9 = .int .i64 k ∧ Hid (Fr Nix W4 wr))
          case atStart => exact ⟨0, Nat.zero_le _, by omega, rfl, Fr.refl _ _⟩
          case round =>
            obtain ⟨k, hk, hg, rfl, H⟩ := hrel
            by_cases hlt : k < K
            · have hlti : (k : Int) < (K : Int) := by omega
              have hN := HL.out.small k hlt
              obtain ⟨A, c, hS⟩ : ∃ A c, S k = .slice A (N k) c := by
                obtain ⟨_, A, c, e, _⟩ := (P2.out k hlt).rd
                exact ⟨A, c, by rw [e, mkL_length]⟩
              have HSk := Lib.hid hS
              have HCk : Hid (∀ wr', Fr Nix W4 wr' → wr'.cell? ⟨gb, k, none⟩ = some (.slice A (N k) c)) := fun wr' hf => by rw [HC2.out wr' (P1.out.nix hf) k hlt, hS]
              obtain ⟨gv, hgv⟩ := P4.out
              obtain ⟨r1, r2, r3⟩ := hgv k hlt
              obtain ⟨Ag, cg, hG7⟩ : ∃ A c, gv k = .slice A (N k + 64) c := by
                obtain ⟨_, A, c, e, _⟩ := r2
                exact ⟨A, c, by rw [e, mkL_length]⟩
              rw [hG7] at r1 r2
              have R1 := Lib.hid r1
              have R2 := Lib.hid r2
              clear r1 r2 r3 hgv hG7 hS
              go_wp2_with fail
              go_loopg [10] (N k + 64) (fun gg s10 wr => ∃ i : Nat, i ≤ N k + 64 ∧ N k + 64 - i ≤ gg ∧ s10 = .int .i64 i ∧ Hid (Fr Nix W4 wr))
              case atStart => exact ⟨0, Nat.zero_le _, by omega, rfl, H.out⟩
              case round =>
                clear H
                obtain ⟨i, hi, hgi, rfl, H⟩ := hrel
                have x0 := HCk.out wr H.out
                have x1 := H.out.cell' R1.out
                by_cases hli : i < N k + 64
                · have hlii : (i : Int) < ((N k + 64 : Nat) : Int) := by omega
                  have hlii2 : (i : Int) < ((N k : Nat) : Int) + 64 := by omega
                  have hr2 := R2.out.nix H.out
                  obtain ⟨_, A', c', e, hr⟩ := hr2
                  simp only [Value.slice.injEq] at e
                  obtain ⟨rfl, hqq, rfl⟩ := e
                  clear hqq
                  rcases hr with h0 | ⟨b2, off2, rfl, hb2, hcc⟩
                  · have := congrArg List.length h0
                    rw [mkL_length] at this
                    simp at this
                  have y0 := (hcc i (by rw [mkL_length]; exact hli)).1
                  have y1 := (hcc i (by rw [mkL_length]; exact hli)).2
                  rw [mkL_get] at y0 y1
                  have HM : ∀ n : Gt wr, Hid (Calls Tryz.prog 52 #[.int .i64 k, .int .i64 i] n.w fun e w' => e = .returned (markR k i).val ∧ Fr Nix n.w w') := fun n => markRow_any n.w k i (by omega) (by omega)
                  unfold Rw.val at HM
                  clear hcc
                  by_cases hlk : i < N k
                  · have hlki : (i : Int) < ((N k : Nat) : Int) := by omega
                    have hr3 := (P2.out k hlt).rd.nix H.out
                    rw [HSk.out] at hr3
                    obtain ⟨_, A', c', e, hr⟩ := hr3
                    simp only [Value.slice.injEq] at e
                    obtain ⟨rfl, hqq, rfl⟩ := e
                    clear hqq
                    rcases hr with h0 | ⟨b3, off3, rfl, hb3, hcc⟩
                    · have := congrArg List.length h0
                      rw [mkL_length] at this
                      simp at this
                      omega
                    have z0 := (hcc i (by rw [mkL_length]; exact hlk)).1
                    have z1 := (hcc i (by rw [mkL_length]; exact hlk)).2
                    rw [mkL_get] at z0 z1
                    clear hcc
                    generalize markR k i = y at y0 y1 z0 z1 HM
                    have x0' := Gt.cell x0
                    have x1' := Gt.cell x1
                    have y0' := Gt.cell y0
                    have y1' := Gt.cell y1
                    have z0' := Gt.cell z0
                    have z1' := Gt.cell z1
                    go_wp2_with fail
                    refine wp_region_gt (by kernel_rfl) (by kernel_rfl) ?_
                    repeat (go_big_quiet_step ((go_at_call 52; exact (HM _).out.gt)))
                    refine wpQuiet_nil ?_
                    rintro w5 ⟨⟨_, h5⟩, rfl⟩
                    go_wp2_with fail
                    go_roundg (N k + 64 - (i + 1))
                    case measure => omega
                    case rel => exact ⟨i + 1, by omega, by omega, by go_num, H.out.nix h5⟩
                  · have hlki : ¬ (i : Int) < ((N k : Nat) : Int) := by omega
                    generalize markR k i = y at y0 y1 HM
                    have x0' := Gt.cell x0
                    have x1' := Gt.cell x1
                    have y0' := Gt.cell y0
                    have y1' := Gt.cell y1
                    go_wp2_with fail
                    refine wp_region_gt (by kernel_rfl) (by kernel_rfl) ?_
                    repeat (go_big_quiet_step ((go_at_call 52; exact (HM _).out.gt)))
                    refine wpQuiet_nil ?_
                    rintro w5 ⟨⟨_, h5⟩, rfl⟩
                    go_wp2_with fail
                    go_roundg (N k + 64 - (i + 1))
                    case measure => omega
                    case rel => exact ⟨i + 1, by omega, by omega, by go_num, H.out.nix h5⟩
                · obtain rfl : i = N k + 64 := by omega
                  go_wp2_with fail
                  go_roundg (K - (k + 1))
                  case measure => omega
                  case rel => exact ⟨k + 1, by omega, by omega, by go_num, H.out⟩
            · obtain rfl : K = k := by omega
              obtain ⟨W5, hW5⟩ : ∃ W5, W5 = wr := ⟨_, rfl⟩
              subst hW5
              have P5 : Hid (Fr (fun b => FootL K S b ∨ b = G) W2 W5) := P1.out.nix H.out
              have Q0 : Hid (Fr (fun b => FootL K S b ∨ b = G) W5 W5 ∧ (∀ j, j < K → OwnR W5 (S j) (mkL j (N j))) ∧ (∃ cur, Blk W5 G cur 29 ∧ cur.length = K) ∧
                  ∃ gv : Nat → Value, ∀ j, j < K → W5.cell? ⟨G, j, none⟩ = some (gv j) ∧ (∃ R, RdR W5 (gv j) (mkL j (N j) ++ R)) ∧ ∀ b, (gv j).ownBlock = some b → b ≠ G ∧ ∀ i, i < K → (S i).ownBlock = some b → i = j) := by
                refine ⟨Fr.refl _ _, fun j hj => (P2.out j hj).mono H.out (fun _ _ h => h), ?_, ?_⟩
                · obtain ⟨cur, hb, hl⟩ := P3.out
                  exact ⟨cur, hb.mono H.out (fun h => h), hl⟩
                · obtain ⟨gv, hgv⟩ := P4.out
                  refine ⟨gv, fun j hj => ?_⟩
                  obtain ⟨r1, r2, r3⟩ := hgv j hj
                  exact ⟨H.out.cell' r1, ⟨_, by rw [← mkL_add]; exact r2.nix H.out⟩, r3⟩
              clear P1 P2 P3 P4 H hk hg hlt
              go_wp2_with fail
              go_loopg [11] K (fun gg s11 wr => ∃ k : Nat, k ≤ K ∧ K - k ≤ gg ∧ s11 = .int .i64 k ∧ Hid (Fr (fun b => FootL K S b ∨ b = G) W5 wr ∧ (∀ j, j < K → OwnR wr (S j) (mkL j (N j))) ∧ (∃ cur, Blk wr G cur 29 ∧ cur.length = K) ∧
                  ∃ gv : Nat → Value, ∀ j, j < K → wr.cell? ⟨G, j, none⟩ = some (gv j) ∧ (∃ R, RdR wr (gv j) (mkL j (N j) ++ R)) ∧ ∀ b, (gv j).ownBlock = some b → b ≠ G ∧ ∀ i, i < K → (S i).ownBlock = some b → i = j))
              case atStart => exact ⟨0, Nat.zero_le _, by omega, rfl, Q0.out⟩
              case round =>
                clear Q0
                obtain ⟨k, hk, hg, rfl, H⟩ := hrel
                obtain ⟨W6, hW6⟩ : ∃ W6, W6 = wr := ⟨_, rfl⟩
                subst hW6
                by_cases hlt : k < K
                · have hlti : (k : Int) < (K : Int) := by omega
                  obtain ⟨p1, p2, p3, p4⟩ := H.out
                  have P1 : Hid (Fr (fun b => FootL K S b ∨ b = G) W2 W6) := P5.out.trans p1
                  have P0 := Lib.hid p1
                  have P2 := Lib.hid p2
                  have P3 := Lib.hid p3
                  have P4 := Lib.hid p4
                  have hN := HL.out.small k hlt
                  obtain ⟨A, c, hS⟩ : ∃ A c, S k = .slice A (N k) c := by
                    obtain ⟨_, A, c, e, _⟩ := (p2 k hlt).rd
                    exact ⟨A, c, by rw [e, mkL_length]⟩
                  have HSk := Lib.hid hS
                  have HCk : Hid (∀ wr', Fr (fun b => FootL K S b ∨ b = G) W2 wr' → wr'.cell? ⟨gb, k, none⟩ = some (.slice A (N k) c)) := fun wr' hf => by rw [HC2.out wr' hf k hlt, hS]
                  have hrun := run_make (P := Tryz.prog) W6 29 48 i0 _ Tryz.underlying29 hi0 hz0 .i64 .i64 64 64 (by decide) (Int.le_refl _) (by rw [hz2]; decide) (by decide)
                  rw [hz1] at hrun
                  simp only [show (64 : Int).toNat = 64 from rfl] at hrun
                  obtain ⟨W7, hW7⟩ : ∃ W7, W7 = W6.alloc (.cells (madeCells (Value.agg #[.string ⟨#[]⟩, .string ⟨#[]⟩]).cells (64 * 2)) 48) := ⟨_, rfl⟩
                  rw [← hW7] at hrun
                  have M7 : Hid (∃ R : List Rw, OwnR W7 (.slice (some ⟨W6.heap.size, 0, none⟩) 64 64) R ∧ R.length = 64 ∧ Fr Nix W6 W7) := by
                    refine ⟨List.replicate 64 ⟨⟨#[]⟩, ⟨#[]⟩⟩, ?_, by simp, by rw [hW7]; exact (Fr.refl _ _).alloc _⟩
                    rw [hW7]
                    have hb := Blk.new W6 (madeCells (Value.agg #[.string ⟨#[]⟩, .string ⟨#[]⟩]).cells (64 * 2)).toList 48
                    simp only [Array.toArray_toList] at hb
                    have := OwnR.of_blk (xs := List.replicate 64 ⟨⟨#[]⟩, ⟨#[]⟩⟩) (cap := 64) hb (by simp) (by simp only [maxLen]; omega) (by rw [Array.length_toList, size_madeCells]) (by kernel_rfl)
                    simpa using this
                  clear p1 p2 p3 p4 H hS hW7
                  obtain ⟨M, hM⟩ : ∃ M, W6.heap.size = M := ⟨_, rfl⟩
                  rw [hM] at hrun M7
                  have HMM := Lib.hid hM
                  clear hM
                  go_wp2_with fail
                  clear hrun
                  go_loopg [13] 64 (fun gg s13 wr => ∃ i : Nat, i ≤ 64 ∧ 64 - i ≤ gg ∧ s13 = .int .i64 i ∧ Hid (∃ R : List Rw, OwnR wr (.slice (some ⟨M, 0, none⟩) 64 64) R ∧ R.length = 64 ∧ Fr Nix W6 wr))
                  case atStart => exact ⟨0, by omega, by omega, rfl, M7.out⟩
                  case round =>
                    clear M7
                    obtain ⟨i, hi, hgi, rfl, H⟩ := hrel
                    obtain ⟨R, m1, m2, m3⟩ := H.out
                    have M1 := Lib.hid m1
                    have M2 := Lib.hid m2
                    have M3 := Lib.hid m3
                    clear m1 m2 m3 H
                    by_cases hli : i < 64
                    · have hlii : (i : Int) < 64 := by omega
                      have HM2 := fun W => Lib.hid (markRow_any W (k + K) i (by omega) (by omega))
                      have ec : ((k + K : Nat) : Int) = (k : Int) + (K : Int) := by omega
                      rw [ec] at HM2
                      have hwr : IntKind.i64.wrap ((k : Int) + (K : Int)) = (k : Int) + (K : Int) := IntWalk.i64_in _ (by omega)
                      unfold Rw.val at HM2
                      generalize markR (k + K) i = y at HM2
                      clear ec
                      go_wp2_with fail
                      refine (HM2 _).out.mono ?_
                      rintro e w8 ⟨rfl, h8⟩
                      have O8 := M1.out.mono h8 (fun _ _ h => h)
                      obtain ⟨g8, c8, e8, _, hfr⟩ := own_form O8 (by have := M2.out; omega)
                      simp only [Value.slice.injEq, Option.some.injEq, Addr.mk.injEq] at e8
                      obtain ⟨⟨rfl, _, _⟩, hqq, rfl⟩ := e8
                      clear hqq
                      have hrd := rd_at O8.rd i (by have := M2.out; omega)
                      obtain ⟨f0, f1⟩ := hfr i (by have := M2.out; omega)
                      obtain ⟨q0, e0⟩ : ∃ q, Value.string (R[i]'(by have := M2.out; omega)).k = q := ⟨_, rfl⟩
                      obtain ⟨q1, e1⟩ : ∃ q, Value.string (R[i]'(by have := M2.out; omega)).v = q := ⟨_, rfl⟩
                      rw [e0, e1] at hrd
                      obtain ⟨y0, y1⟩ := hrd
                      have O8h := Lib.hid O8
                      have F8 := Lib.hid (M3.out.nix h8)
                      have hMl : M ≤ M := Nat.le_refl _
                      clear O8 hfr e0 e1 h8
                      go_wp2_with fail
                      go_roundg (64 - (i + 1))
                      case measure => omega
                      case rel =>
                        refine ⟨i + 1, by omega, by omega, by go_num, R.set i y, own_set O8h.out i (by have := M2.out; omega) y, by rw [List.length_set]; exact M2.out, ?_⟩
                        exact (F8.out.setCell (p := ⟨M, i * 2, none⟩) (.inl (by have := HMM.out; show _ ≤ M; omega)) _).setCell (p := ⟨M, i * 2 + 1, none⟩) (.inl (by have := HMM.out; show _ ≤ M; omega)) _
                    · obtain rfl : i = 64 := by omega
                      have F3 : Hid (Fr (fun b => FootL K S b ∨ b = G) W2 wr) := P1.out.nix M3.out
                      have x0 := HCk.out wr F3.out
                      have hR : R.length = 64 := M2.out
                      have hrd : RdR wr (.slice (some ⟨M, 0, none⟩) R.length 64) R := by rw [hR]; exact M1.out.rd
                      have hos : OwnR wr (.slice A (N k) c) (mkL k (N k)) := by
                        have := (P2.out k hlt).mono M3.out (fun _ _ h => h)
                        rwa [HSk.out] at this
                      obtain ⟨v9, w9, hrun, n1, n2, n3, n4⟩ := append_keep wr _ (mkL k (N k)) hos (some ⟨M, 0, none⟩) 64 R hrd (by omega) (by rw [mkL_length]; omega) 29
                      rw [hR] at hrun
                      have NX : Hid (∃ A9 L9 c9, v9 = .slice A9 L9 c9 ∧ OwnR w9 v9 (mkL k (N k) ++ R) ∧ OwnR w9 (.slice A (N k) c) (mkL k (N k)) ∧ Fr (fun b => (Value.slice A (N k) c).ownBlock = some b) W6 w9 ∧ (v9.ownBlock = (Value.slice A (N k) c).ownBlock ∨ ∀ b, v9.ownBlock = some b → W6.heap.size ≤ b)) := by
                        obtain ⟨A', L', c', e⟩ := n1.form
                        refine ⟨A', L', c', e, n1, n4 _ _ hos (fun _ _ _ => Nat.le_refl _), M3.out.any.trans n2, ?_⟩
                        rcases n3 with e | e
                        · exact .inl e
                        · right
                          intro b hb
                          rw [e] at hb
                          cases hb
                          exact M3.out.size
                      have hlenA : (mkL k (N k)).length = N k := mkL_length _ _
                      clear n1 n2 n3 n4 hR hrd hos hlenA
                      obtain ⟨A9, L9, c9, rfl, m1, m2, m3, m4⟩ := NX.out
                      have M1' := Lib.hid m1
                      have M2' := Lib.hid m2
                      have M3' := Lib.hid m3
                      have M4' := Lib.hid m4
                      clear m1 m2 m3 m4 NX
                      have BG : Hid (∃ cur, Blk w9 G cur 29 ∧ cur.length = K) := by
                        obtain ⟨cur, hb, hl⟩ := P3.out
                        refine ⟨cur, hb.mono M3'.out (fun e => ?_), hl⟩
                        have := HSlt.out k hlt G (by rw [HSk.out]; exact e)
                        omega
                      obtain ⟨cur, hb, hl⟩ := BG.out
                      have g0 : w9.cell? ⟨G, k, none⟩ = some (cur[k]'(by omega)) := by rw [hb.cell]; exact List.getElem?_eq_getElem (by omega)
                      have g1 : w9.frozen? ⟨G, k, none⟩ = false := hb.frozen k
                      have HB := Lib.hid (And.intro hb hl)
                      obtain ⟨q, hq⟩ : ∃ q, cur[k]'(by omega) = q := ⟨_, rfl⟩
                      rw [hq] at g0
                      clear hb hl hq BG
                      go_wp2_with (at_builtin; refine wp_append_list rfl _ _ 29 29 rfl _ _ rfl rfl _ _ hrun ?_)
                      clear hrun
                      go_roundg (K - (k + 1))
                      case measure => omega
                      case rel =>
                        have FS : Fr (fun b => b = G) w9 (w9.setCell ⟨G, k, none⟩ (.slice A9 L9 c9)) := (Fr.refl (fun b => b = G) w9).setCell (p := ⟨G, k, none⟩) (.inr rfl) _
                        have h7 : ∀ b, (Value.slice A9 L9 c9).ownBlock = some b → b ≠ G ∧ ∀ i, i < K → (S i).ownBlock = some b → i = k := by
                          intro b hb
                          rcases M4'.out with h | h
                          · rw [h] at hb
                            have hsb : (S k).ownBlock = some b := by rw [HSk.out]; exact hb
                            exact ⟨by have := HSlt.out k hlt b hsb; omega, fun i hi he => HL.out.sep i k b hi hlt he hsb⟩
                          · have h1 := h b hb
                            have h2 := P1.out.size
                            have h3 := hG2.out
                            exact ⟨by omega, fun i hi he => by have := HSlt.out i hi b he; omega⟩
                        have FK : Fr (fun b => FootL K S b ∨ b = G) W6 w9 := M3'.out.mono (fun b _ e => .inl ⟨k, hlt, by rw [HSk.out]; exact e⟩)
                        refine ⟨k + 1, by omega, by omega, by go_num, (P0.out.trans FK).trans (FS.mono (fun b _ e => .inr e)), fun j hj => ?_, ⟨_, HB.out.1.set k _, by rw [List.length_set]; exact HB.out.2⟩, ?_⟩
                        · have hjb : ∀ b, (S j).ownBlock = some b → ¬ b = G := fun b hb e => by have := HSlt.out j hj b hb; omega
                          by_cases e : j = k
                          · subst e
                            have := M2'.out
                            rw [← HSk.out] at this
                            exact this.mono FS hjb
                          · exact ((P2.out j hj).mono M3'.out (fun b hb h => e (HL.out.sep j k b hj hlt hb (by rw [HSk.out]; exact h)))).mono FS hjb
                        · obtain ⟨gv, hgv⟩ := P4.out
                          refine ⟨fun j => if j = k then .slice A9 L9 c9 else gv j, fun j hj => ?_⟩
                          by_cases e : j = k
                          · subst e
                            simp only [if_true]
                            refine ⟨cell_set _ _ _ _ g0, ⟨R, M1'.out.rd.mono1 FS (fun b hb h => (h7 b hb).1 h)⟩, h7⟩
                          · simp only [if_neg e]
                            obtain ⟨r1, ⟨R', r2⟩, r3⟩ := hgv j hj
                            refine ⟨?_, ⟨R', (r2.mono1 M3'.out (fun b hb h => e ((r3 b hb).2 k hlt (by rw [HSk.out]; exact h)).symm)).mono1 FS (fun b hb h => (r3 b hb).1 h)⟩, r3⟩
                            have hc1 : w9.cell? ⟨G, j, none⟩ = some (gv j) := (M3'.out.cell (p := ⟨G, j, none⟩) (by have := P1.out.size; have := hG2.out; show G < _; omega) (fun h => by have := HSlt.out k hlt G (by rw [HSk.out]; exact h); omega)).trans r1
                            exact (World.cell?_setCell_other w9 ⟨G, k, none⟩ ⟨G, j, none⟩ _ (by intro h; simp only [Addr.mk.injEq, true_and, and_true] at h; exact e h.symm)).trans hc1
                · obtain rfl : K = k := by omega
                  obtain ⟨p1, p2, p3, p4⟩ := H.out
                  have P0 := Lib.hid p1
                  have P1 : Hid (Fr (fun b => FootL K S b ∨ b = G) W2 W6) := P5.out.trans p1
                  have P2 := Lib.hid p2
                  have P4 := Lib.hid p4
                  clear p1 p2 p3 p4 H hk hg hlt
                  go_wp2_with fail
                  go_loopg [14] K (fun gg s14 wr => ∃ k : Nat, k ≤ K ∧ K - k ≤ gg ∧ s14 = .int .i64 k ∧ Hid (Fr Nix W6 wr))
                  case atStart => exact ⟨0, Nat.zero_le _, by omega, rfl, Fr.refl _ _⟩
                  case round =>
                    obtain ⟨k, hk, hg, rfl, H⟩ := hrel
                    by_cases hlt : k < K
                    · have hlti : (k : Int) < (K : Int) := by omega
                      have hN := HL.out.small k hlt
                      obtain ⟨A, c, hS⟩ : ∃ A c, S k = .slice A (N k) c := by
                        obtain ⟨_, A, c, e, _⟩ := (P2.out k hlt).rd
                        exact ⟨A, c, by rw [e, mkL_length]⟩
                      have HSk := Lib.hid hS
                      have HCk : Hid (∀ wr', Fr Nix W6 wr' → wr'.cell? ⟨gb, k, none⟩ = some (.slice A (N k) c)) := fun wr' hf => by rw [HC2.out wr' (P1.out.nix hf) k hlt, hS]
                      obtain ⟨gv, hgv⟩ := P4.out
                      obtain ⟨r1, ⟨R, r2⟩, r3⟩ := hgv k hlt
                      obtain ⟨Ag, Lg, cg, hG7⟩ : ∃ A L c, gv k = .slice A L c := by
                        obtain ⟨_, A, c, e, _⟩ := r2
                        exact ⟨A, _, c, e⟩
                      rw [hG7] at r1 r2
                      have R1 := Lib.hid r1
                      have R2 := Lib.hid r2
                      have hLg : Lg = N k + R.length := by obtain ⟨_, A, c, e, _⟩ := r2; simp only [Value.slice.injEq] at e; rw [e.2.1, List.length_append, mkL_length]
                      have HLg := Lib.hid hLg
                      clear r1 r2 r3 hgv hG7 hS hLg
                      go_wp2_with fail
                      go_loopg [15] (N k) (fun gg s15 wr => ∃ i : Nat, i ≤ N k ∧ N k - i ≤ gg ∧ s15 = .int .i64 i ∧ Hid (Fr Nix W6 wr))
                      case atStart => exact ⟨0, Nat.zero_le _, by omega, rfl, H.out⟩
                      case round =>
                        clear H
                        obtain ⟨i, hi, hgi, rfl, H⟩ := hrel
                        have x0 := HCk.out wr H.out
                        have x1 := H.out.cell' R1.out
                        by_cases hli : i < N k
                        · have hlki : (i : Int) < ((N k : Nat) : Int) := by omega
                          have hlgi : (i : Int) < (Lg : Int) := by have := HLg.out; omega
                          have hr2 := R2.out.nix H.out
                          obtain ⟨_, A', c', e, hr⟩ := hr2
                          simp only [Value.slice.injEq] at e
                          obtain ⟨rfl, hqq, rfl⟩ := e
                          clear hqq
                          rcases hr with h0 | ⟨b2, off2, rfl, hb2, hcc⟩
                          · have := congrArg List.length h0
                            rw [List.length_append, mkL_length] at this
                            simp at this
                            omega
                          have hil : i < (mkL k (N k)).length := by rw [mkL_length]; exact hli
                          have hil2 : i < (mkL k (N k) ++ R).length := by rw [List.length_append]; omega
                          have y0 := (hcc i hil2).1
                          have y1 := (hcc i hil2).2
                          rw [List.getElem_append_left hil, mkL_get] at y0 y1
                          have HM : ∀ n : Gt wr, Hid (Calls Tryz.prog 52 #[.int .i64 k, .int .i64 i] n.w fun e w' => e = .returned (markR k i).val ∧ Fr Nix n.w w') := fun n => markRow_any n.w k i (by omega) (by omega)
                          unfold Rw.val at HM
                          clear hcc hil hil2
                          have hr3 := (P2.out k hlt).rd.nix H.out
                          rw [HSk.out] at hr3
                          obtain ⟨_, A', c', e, hr⟩ := hr3
                          simp only [Value.slice.injEq] at e
                          obtain ⟨rfl, hqq, rfl⟩ := e
                          clear hqq
                          rcases hr with h0 | ⟨b3, off3, rfl, hb3, hcc⟩
                          · have := congrArg List.length h0
                            rw [mkL_length] at this
                            simp at this
                            omega
                          have z0 := (hcc i (by rw [mkL_length]; exact hli)).1
                          have z1 := (hcc i (by rw [mkL_length]; exact hli)).2
                          rw [mkL_get] at z0 z1
                          clear hcc
                          generalize markR k i = y at y0 y1 z0 z1 HM
                          have x0' := Gt.cell x0
                          have x1' := Gt.cell x1
                          have y0' := Gt.cell y0
                          have y1' := Gt.cell y1
                          have z0' := Gt.cell z0
                          have z1' := Gt.cell z1
                          go_wp2_with fail
                          refine wp_region_gt (by kernel_rfl) (by kernel_rfl) ?_
                          repeat (go_big_quiet_step ((go_at_call 52; exact (HM _).out.gt)))
                          refine wpQuiet_nil ?_
                          rintro w5 ⟨⟨_, h5⟩, rfl⟩
                          go_wp2_with fail
                          go_roundg (N k - (i + 1))
                          case measure => omega
                          case rel => exact ⟨i + 1, by omega, by omega, by go_num, H.out.nix h5⟩
                        · obtain rfl : i = N k := by omega
                          go_wp2_with fail
                          go_roundg (K - (k + 1))
                          case measure => omega
                          case rel => exact ⟨k + 1, by omega, by omega, by go_num, H.out⟩
                    · obtain rfl : K = k := by omega
                      go_wp2_with fail
                      go_ret
                      refine ⟨rfl, FW.out.then (P1.out.nix H.out) (fun b hb e => ?_)⟩
                      rcases e with e | e
                      · exact e
                      · have := HG.out
                        have := HG2.out
                        omega
end Go.Proofs.YtnilbpofmohfhaaGreat
