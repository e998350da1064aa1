/- Walks of package shares: at, share, Of, In. -/
import Derived.Test.YtpggnelngfpfgaaShW
namespace Go.Proofs.Ytpggnelngfpfgaa
open Go.RowKit

/-- What is asked of a predicate over spans that is handed over. -/
def PredSp (P : Program) (g : Nat) (lb : Array Value) (p : Rw → Bool) (w : World) : Prop :=
  ∀ W (s : Rw), Fr Nix w W → Calls P g (#[.agg #[.string s.k, .string s.v]] ++ lb) W fun e w' => e = .returned (.bool (p s)) ∧ Fr Nix W w'
def atS (p : Rw → Bool) (s : Shs) : Int := if rightS s then idxC (fun x => p x.sp) s.l 0 else -1
set_option maxRecDepth 100000 in
set_option maxHeartbeats 1000000 in
theorem at1_any (x : Shr) (b : Nat) (g : Nat) (lb : Array Value) (p : Rw → Bool) (w0 w : World) (hc : w.cell? ⟨b, 0, none⟩ = some (.func (.func g) #[] lb)) (hp : PredSp Try.prog g lb p w0) (hw : Fr Nix w0 w)
    (eg : ∀ args w, (callFunc g args).run Try.prog w = .ok (.enter g args) w) :
    Calls Try.prog 62 #[x.val, .pointer (some ⟨b, 0, none⟩)] w fun e w' => e = .returned (.bool (p x.sp)) ∧ Fr Nix w w' := by
  obtain ⟨lo, hi, g', e⟩ := x
  unfold Shr.val Shr.sp
  have HK := Lib.hid (hp (w.alloc (.cells #[.string lo, .string hi, .int .i64 g', .int .i64 e] 41)) ⟨lo, hi⟩ (hw.alloc _))
  have hb := ups (World.block_lt_of_cell? _ _ hc)
  clear hp hw
  go_enter Try.func62, Try.ntmps62
  go_wp2_with fail
  refine HK.out.mono ?_
  rintro e w1 ⟨rfl, h1⟩
  go_wp2
  go_ret
  exact ⟨rfl, ((Fr.refl _ _).alloc _).nix h1⟩
theorem eg62 : ∀ args w, (callFunc 62 args).run Try.prog w = .ok (.enter 62 args) w := fun _ _ => by kernel_rfl
set_option maxRecDepth 100000 in
set_option maxHeartbeats 2000000 in
theorem at_any (w : World) (ep : Int) (v : Value) (xs : List Shr) (g : Nat) (lb : Array Value) (p : Rw → Bool) (hv : RdSh w v xs) (hl : xs.length ≤ 1000000000) (hp : PredSp Try.prog g lb p w)
    (eg : ∀ args w, (callFunc g args).run Try.prog w = .ok (.enter g args) w) :
    Calls Try.prog 31 #[.agg #[.int .i64 ep, v], .func (.func g) #[] lb] w fun e w' => e = .returned (.int .i64 (atS p ⟨ep, xs⟩)) ∧ Fr Nix w w' := by
  obtain ⟨A, c, rfl⟩ := hv.form
  have HV := Lib.hid hv
  have HP := Lib.hid hp
  have HR := fun W (h : Fr Nix w W) => Lib.hid (rightSh_any W ep (.slice A xs.length c) xs (hv.nix h) hl)
  clear hv hp
  have hA : Hid (atS p ⟨ep, xs⟩ = if rightS ⟨ep, xs⟩ then idxC (fun x => p x.sp) xs 0 else -1) := rfl
  go_enter Try.func31, Try.ntmps31
  go_wp2_with fail
  refine (HR _ (((Fr.refl _ _).alloc _).alloc _)).out.mono ?_
  rintro e w1 ⟨rfl, h1⟩
  have c1 : w1.cell? ⟨w.heap.size, 1, none⟩ = some (.slice A xs.length c) := h1.cell' (by go_simp)
  have c2 : w1.cell? ⟨w.heap.size + 1, 0, none⟩ = some (.func (.func g) #[] lb) := h1.cell' (by go_simp)
  have F1 : Hid (Fr Nix w w1) := (((Fr.refl _ _).alloc _).alloc _).nix h1
  clear h1
  cases hr : rightS ⟨ep, xs⟩ with
  | false =>
    rw [hr] at hA
    clear hr
    go_wp2_with fail
    go_ret
    exact ⟨ret_int hA.out.symm, F1.out⟩
  | true =>
    rw [hr] at hA
    have HPS : Hid (PredSh Try.prog 62 #[.pointer (some ⟨w.heap.size + 1, 0, none⟩)] (fun x => p x.sp) w1) := fun W x hW => at1_any x (w.heap.size + 1) g lb p w W (hW.cell' c2) HP.out (F1.out.nix hW) eg
    have HI := Lib.hid (indexFuncSh_any 62 #[.pointer (some ⟨w.heap.size + 1, 0, none⟩)] (fun x => p x.sp) w1 (.slice A xs.length c) xs (HV.out.nix F1.out) HPS.out eg62)
    clear hr HPS
    go_wp2_with fail
    refine HI.out.mono ?_
    rintro e w2 ⟨rfl, h2⟩
    go_wp2_with fail
    go_ret
    exact ⟨ret_int hA.out.symm, F1.out.nix h2⟩
set_option maxRecDepth 100000 in
set_option maxHeartbeats 1000000 in
theorem share_any (w : World) (ep : Int) (v : Value) (xs : List Shr) (hv : RdSh w v xs) (k : Int) (o : Option Shr) (hk : (k = -1 ∧ o = none) ∨ ∃ i, ∃ h : i < xs.length, k = (i : Int) ∧ o = some xs[i]) :
    Calls Try.prog 43 #[.agg #[.int .i64 ep, v], .int .i64 k] w fun e w' => e = .returned (.tuple #[(o.getD Shr.zero).val, .bool o.isSome]) ∧ Fr Nix w w' := by
  rcases hk with ⟨rfl, rfl⟩ | ⟨i, hi, rfl, rfl⟩
  · obtain ⟨A, c, rfl⟩ := hv.form
    clear hv
    go_enter Try.func43, Try.ntmps43
    go_wp2_with fail
    refine bodyPost_ret (v := .tuple #[.agg #[.string ⟨#[]⟩, .string ⟨#[]⟩, .int .i64 0, .int .i64 0], .bool false]) (by simp [results, Try.results43, go_sem]; try rfl) rfl ⟨rfl, ?_⟩
    first
      | exact (((Fr.refl _ _).alloc _).alloc _)
      | exact (((Fr.refl Nix w).alloc _).alloc _).setCell (.inl (by simp)) _
      | repeat (first | exact Fr.refl _ _ | refine Fr.alloc ?_ _ | refine Fr.setCell ?_ (.inl (by simp)) _)
  · obtain ⟨hm, A, c, rfl, hr⟩ := hv
    rcases hr with h0 | ⟨b, off, rfl, hb, hc⟩
    · rw [h0] at hi; cases hi
    obtain ⟨c0, c1, c2, c3⟩ := sh_cells hc (Fr.refl _ _) i hi
    have hii : (i : Int) < (xs.length : Int) := by omega
    clear hc
    simp only [Option.getD_some, Option.isSome_some]
    generalize xs[i] = y at c0 c1 c2 c3 ⊢
    obtain ⟨lo, hi', g, e⟩ := y
    dsimp only at c0 c1 c2 c3
    unfold Shr.val
    have hbu := ups hb
    go_enter Try.func43, Try.ntmps43
    go_wp2_with fail
    refine bodyPost_ret (v := .tuple #[.agg #[.string lo, .string hi', .int .i64 g, .int .i64 e], .bool true]) (by simp [results, Try.results43, go_sem]; try rfl) rfl ⟨rfl, ?_⟩
    repeat (first | exact Fr.refl _ _ | refine Fr.alloc ?_ _ | refine Fr.setCell ?_ (.inl (by simp)) _)
theorem at_share (p : Rw → Bool) (s : Shs) : (atS p s = -1 ∧ (if rightS s then s.l.find? (fun x => p x.sp) else none) = none) ∨ ∃ i, ∃ h : i < s.l.length, atS p s = (i : Int) ∧ (if rightS s then s.l.find? (fun x => p x.sp) else none) = some s.l[i] := by
  unfold atS
  cases hr : rightS s with
  | false => exact .inl ⟨rfl, rfl⟩
  | true =>
    rcases idxC_cases (fun x : Shr => p x.sp) s.l with ⟨h1, h2⟩ | ⟨k, hk, h1, h2, _⟩
    · exact .inl ⟨h1, h2⟩
    · exact .inr ⟨k, hk, h1, h2⟩
set_option maxRecDepth 100000 in
theorem of1_any (s : Rw) (b : Nat) (key : ByteArray) (w : World) (hc : w.cell? ⟨b, 0, none⟩ = some (.string key)) :
    Calls Try.prog 44 #[.agg #[.string s.k, .string s.v], .pointer (some ⟨b, 0, none⟩)] w fun e w' => e = .returned (.bool (hasB s.k s.v key)) ∧ Fr Nix w w' := by
  obtain ⟨lo, hi⟩ := s
  dsimp only
  have hb := ups (World.block_lt_of_cell? _ _ hc)
  have HK := fun W => Lib.hid (has_any lo hi key W)
  go_enter Try.func44, Try.ntmps44
  go_wp2_with fail
  refine (HK _).out.mono ?_
  rintro e w1 ⟨rfl, h1⟩
  go_wp2
  go_ret
  exact ⟨rfl, ((Fr.refl _ _).alloc _).nix h1⟩
set_option maxRecDepth 100000 in
theorem in1_any (s : Rw) (b : Nat) (p q : ByteArray) (w : World) (hc0 : w.cell? ⟨b, 0, none⟩ = some (.string p)) (hc1 : w.cell? ⟨b, 1, none⟩ = some (.string q)) :
    Calls Try.prog 48 #[.agg #[.string s.k, .string s.v], .pointer (some ⟨b, 0, none⟩)] w fun e w' => e = .returned (.bool (withB p q s.k s.v)) ∧ Fr Nix w w' := by
  obtain ⟨lo, hi⟩ := s
  dsimp only
  have hb := ups (World.block_lt_of_cell? _ _ hc0)
  have HK := fun W => Lib.hid (within_any p q lo hi W)
  go_enter Try.func48, Try.ntmps48
  go_wp2_with fail
  refine (HK _).out.mono ?_
  rintro e w1 ⟨rfl, h1⟩
  go_wp2
  go_ret
  exact ⟨rfl, ((Fr.refl _ _).alloc _).nix h1⟩
set_option maxRecDepth 100000 in
theorem turn1_any (s : Rw) (b : Nat) (p q : ByteArray) (w : World) (hc0 : w.cell? ⟨b, 0, none⟩ = some (.string p)) (hc1 : w.cell? ⟨b, 1, none⟩ = some (.string q)) :
    Calls Try.prog 32 #[.agg #[.string s.k, .string s.v], .pointer (some ⟨b, 0, none⟩)] w fun e w' => e = .returned (.bool (withB p q s.k s.v)) ∧ Fr Nix w w' := by
  obtain ⟨lo, hi⟩ := s
  dsimp only
  have hb := ups (World.block_lt_of_cell? _ _ hc0)
  have HK := fun W => Lib.hid (within_any p q lo hi W)
  go_enter Try.func32, Try.ntmps32
  go_wp2_with fail
  refine (HK _).out.mono ?_
  rintro e w1 ⟨rfl, h1⟩
  go_wp2
  go_ret
  exact ⟨rfl, ((Fr.refl _ _).alloc _).nix h1⟩
theorem egOf : ∀ args w, (callFunc 44 args).run Try.prog w = .ok (.enter 44 args) w := fun _ _ => by kernel_rfl
theorem egIn : ∀ args w, (callFunc 48 args).run Try.prog w = .ok (.enter 48 args) w := fun _ _ => by kernel_rfl
theorem egTurn : ∀ args w, (callFunc 32 args).run Try.prog w = .ok (.enter 32 args) w := fun _ _ => by kernel_rfl
end Go.Proofs.Ytpggnelngfpfgaa
