/- Rows, first part: rows that are read; ContainsFunc and IndexFunc at any predicate that keeps what was; the closure of Put. -/
import Derived.Test.YtnilbpofmohfhaaGreatSpan
namespace Go.Proofs.YtnilbpofmohfhaaGreat
open Go.RowKit

structure Rw where
  k : ByteArray
  v : ByteArray

def Rw.val (x : Rw) : Value := .agg #[.string x.k, .string x.v]
/-- A slice value that reads as rows. -/
def RdR (w : World) (v : Value) (xs : List Rw) : Prop :=
  xs.length ≤ 9223372036854775807 ∧ ∃ A cap, v = .slice A xs.length cap ∧ (xs = [] ∨ ∃ b off, A = some ⟨b, off, none⟩ ∧ b < w.heap.size ∧
    ∀ i (h : i < xs.length), w.cell? ⟨b, off + i * 2, none⟩ = some (.string xs[i].k) ∧ w.cell? ⟨b, off + i * 2 + 1, none⟩ = some (.string xs[i].v))
theorem RdR.mono {F : Nat → Prop} {w w' : World} {v : Value} {xs : List Rw} (h : RdR w v xs) (hf : Fr F w w') (hF : ∀ b off n cap, v = .slice (some ⟨b, off, none⟩) n cap → ¬ F b) : RdR w' v xs := by
  obtain ⟨h0, A, cap, rfl, h⟩ := h
  refine ⟨h0, A, cap, rfl, ?_⟩
  rcases h with h | ⟨b, off, rfl, hb, hc⟩
  · exact .inl h
  · have := hF b off _ _ rfl
    exact .inr ⟨b, off, rfl, Nat.lt_of_lt_of_le hb hf.size, fun i hi => ⟨(hf.cell (p := ⟨b, _, none⟩) hb this).trans (hc i hi).1, (hf.cell (p := ⟨b, _, none⟩) hb this).trans (hc i hi).2⟩⟩
theorem RdR.nix {w w' : World} {v : Value} {xs : List Rw} (h : RdR w v xs) (hf : Fr Nix w w') : RdR w' v xs := h.mono hf (fun _ _ _ _ _ h => h)

/-- What is asked of a predicate that is handed over: it tells p, and leaves what was. -/
def Pred (P : Program) (g : Nat) (lb : Array Value) (p : Rw → Bool) (w : World) : Prop :=
  ∀ W x, Fr Nix w W → Calls P g (#[x.val] ++ lb) W fun e w' => e = .returned (.bool (p x)) ∧ Fr Nix W w'

def idxP (p : Rw → Bool) : List Rw → Nat → Int
  | [], _ => -1
  | x :: r, i => if p x then (i : Int) else idxP p r (i + 1)
theorem idxP_at (p : Rw → Bool) : ∀ (xs : List Rw) (k i : Nat) (hk : k < xs.length), (∀ j (h : j < k), p (xs[j]'(by omega)) = false) → p xs[k] = true → idxP p xs i = ((i + k : Nat) : Int)
  | x :: r, 0, i, _, _, h => by simp at h; simp [idxP, h]
  | x :: r, k + 1, i, hk, hj, h => by
    have h0 := hj 0 (by omega)
    simp at h0
    rw [idxP, if_neg (by simp [h0]), idxP_at p r k (i + 1) (by simpa using hk) (fun j h => hj (j + 1) (by omega)) (by simpa using h)]
    congr 1
    omega
theorem idxP_none (p : Rw → Bool) : ∀ (xs : List Rw) (i : Nat), (∀ j (h : j < xs.length), p xs[j] = false) → idxP p xs i = -1
  | [], _, _ => rfl
  | x :: r, i, h => by
    have h0 := h 0 (by simp)
    simp at h0
    rw [idxP, if_neg (by simp [h0]), idxP_none p r (i + 1) (fun j hj => h (j + 1) (Nat.succ_lt_succ hj))]

set_option maxHeartbeats 2000000 in
theorem indexFunc_any (g : Nat) (lb : Array Value) (p : Rw → Bool) (w : World) (v : Value) (xs : List Rw) (hr : RdR w v xs) (hp : Pred Tryz.prog g lb p w)
    (eg : ∀ args w, (callFunc g args).run Tryz.prog w = .ok (.enter g args) w) :
    Calls Tryz.prog 92 #[v, .func (.func g) #[] lb] w fun e w' => e = .returned (.int .i64 (idxP p xs 0)) ∧ Fr Nix w w' := by
  obtain ⟨hm, A, cap, rfl, hr⟩ := hr
  have HP := Lib.hid hp
  clear hp
  have HR := Lib.hid hr
  clear hr
  go_enter Tryz.func92, Tryz.ntmps92
  go_wp2
  go_loopg [8] xs.length (fun gg s8 wr => ∃ k : Nat, k ≤ xs.length ∧ xs.length - k ≤ gg ∧ s8 = .int .i64 k ∧ Hid (Fr Nix w wr ∧ ∀ j (h : j < xs.length), j < k → p xs[j] = false))
  case atStart => exact ⟨0, Nat.zero_le _, by omega, rfl, Fr.refl _ _, fun j _ h => absurd h (Nat.not_lt_zero _)⟩
  case round =>
    obtain ⟨k, hk, hg, rfl, H⟩ := hrel
    by_cases hlt : k < xs.length
    · rcases HR.out with h0 | ⟨b, off, rfl, hb, hc⟩
      · rw [h0] at hlt; cases hlt
      have c0 := (H.out.1.cell (p := ⟨b, off + k * 2, none⟩) hb (fun h => h)).trans (hc k hlt).1
      have c1 := (H.out.1.cell (p := ⟨b, off + k * 2 + 1, none⟩) hb (fun h => h)).trans (hc k hlt).2
      have hcall := HP.out wr xs[k] H.out.1
      have HK := Lib.hid hcall
      clear hcall hc
      go_wp2_with fail
      refine HK.out.mono ?_
      rintro e w1 ⟨rfl, h1⟩
      have F1 : Hid (Fr Nix w w1) := H.out.1.trans h1
      clear c0 c1 h1
      cases hq : p xs[k] with
      | true =>
        have HQ := Lib.hid hq
        clear hq
        go_wp2
        go_ret
        refine ⟨ret_int ?_, F1.out⟩
        rw [idxP_at p xs k 0 hlt (fun j h => H.out.2 j (by omega) h) HQ.out, Nat.zero_add]
      | false =>
        have HQ := Lib.hid hq
        clear hq
        go_wp2
        go_roundg (xs.length - (k + 1))
        case measure => omega
        case rel =>
          refine ⟨k + 1, by omega, by omega, by go_num, F1.out, fun j h hj => ?_⟩
          by_cases e : j = k
          · subst e; exact HQ.out
          · exact H.out.2 j h (by omega)
    · have e : k = xs.length := by omega
      subst e
      go_wp2
      go_ret
      exact ⟨ret_int (by rw [idxP_none p xs 0 (fun j h => H.out.2 j h h)]), H.out.1⟩

theorem idxP_any (p : Rw → Bool) : ∀ (xs : List Rw) (i : Nat), decide (0 ≤ idxP p xs i) = xs.any p
  | [], i => by simp [idxP]
  | x :: r, i => by
    rw [idxP, List.any_cons]
    cases h : p x with
    | true => simp
    | false => simp [idxP_any p r (i + 1)]
theorem containsFunc_any (g : Nat) (lb : Array Value) (p : Rw → Bool) (w : World) (v : Value) (xs : List Rw) (hr : RdR w v xs) (hp : Pred Tryz.prog g lb p w)
    (eg : ∀ args w, (callFunc g args).run Tryz.prog w = .ok (.enter g args) w) :
    Calls Tryz.prog 43 #[v, .func (.func g) #[] lb] w fun e w' => e = .returned (.bool (xs.any p)) ∧ Fr Nix w w' := by
  have hc := Lib.hid (indexFunc_any g lb p w v xs hr hp eg)
  have ha := Lib.hid (idxP_any p xs 0)
  clear hr hp
  go_enter Tryz.func43, Tryz.ntmps43
  go_wp2_with fail
  refine hc.out.mono ?_
  rintro e w1 ⟨rfl, h1⟩
  go_wp2
  go_ret
  exact ⟨ret_bool ha.out, h1⟩

def rwB (x : Rw) : Bool := keyB x.k && decide (x.v.size ≤ 20)
set_option maxHeartbeats 1000000 in
theorem rowRight_any (x : Rw) (w : World) : Calls Tryz.prog 45 #[x.val] w fun e w' => e = .returned (.bool (rwB x)) ∧ Fr Nix w w' := by
  obtain ⟨k, v⟩ := x
  unfold Rw.val
  go_enter Tryz.func45, Tryz.ntmps45
  go_wp2_with (go_at_call 93; refine (key_any _ _).mono ?_; rintro e w' ⟨rfl, rfl⟩)
  all_goals
    go_ret
    refine ⟨ret_bool (by simp [rwB, *]; try omega), (Fr.refl _ _).alloc _⟩
set_option maxHeartbeats 1000000 in
theorem put1_any (x : Rw) (w : World) : Calls Tryz.prog 44 #[x.val] w fun e w' => e = .returned (.bool (!rwB x)) ∧ Fr Nix w w' := by
  obtain ⟨k, v⟩ := x
  unfold Rw.val
  have hc := fun W => Lib.hid (rowRight_any ⟨k, v⟩ W)
  go_enter Tryz.func44, Tryz.ntmps44
  go_wp2_with fail
  refine (hc _).out.mono ?_
  rintro e w1 ⟨rfl, h1⟩
  go_wp2
  go_ret
  exact ⟨rfl, ((Fr.refl _ _).alloc _).nix h1⟩
end Go.Proofs.YtnilbpofmohfhaaGreat
