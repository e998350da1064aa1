/- Shares as they lie in memory; ContainsFunc, IndexFunc over shares; within, the spans of shares, span.Parts, span.Within. -/
import Derived.Test.YtpggnelngfpfgaaCod
import Derived.Test.YtpggnelngfpfgaaShrL
namespace Go.Proofs.Ytpggnelngfpfgaa
open Go.RowKit

structure Shr where
  lo : ByteArray
  hi : ByteArray
  g : Int
  e : Int
def Shr.sp (s : Shr) : Rw := ⟨s.lo, s.hi⟩
def Shr.val (s : Shr) : Value := .agg #[.string s.lo, .string s.hi, .int .i64 s.g, .int .i64 s.e]
def eqSh (a b : Shr) : Bool := (decide (a.lo = b.lo) && decide (a.hi = b.hi)) && (decide (a.g = b.g) && decide (a.e = b.e))
theorem eqSh_iff (a b : Shr) : eqSh a b = true ↔ a = b := by
  obtain ⟨a1, a2, a3, a4⟩ := a
  obtain ⟨b1, b2, b3, b4⟩ := b
  simp [eqSh, and_assoc]
instance : DecidableEq Shr := fun a b => decidable_of_iff (eqSh a b = true) (eqSh_iff a b)
def cSh : Cod Shr := ⟨fun x => [.string x.lo, .string x.hi, .int .i64 x.g, .int .i64 x.e], 4, fun _ => rfl, fun a u hu => by
  simp only [List.mem_cons, List.not_mem_nil, or_false] at hu
  rcases hu with rfl | rfl | rfl | rfl <;> rfl⟩
abbrev RdSh := RdC cSh
abbrev OwnSh := OwnC cSh 41
theorem infoSh : (Try.prog.info? 41).map (fun i => (i.zero, i.size, i.bytes)) = some (some (.agg #[.string ⟨#[]⟩, .string ⟨#[]⟩, .int .i64 0, .int .i64 0]), 4, 48) := by kernel_rfl
/-- The four cells of a share that is read. -/
theorem sh_cells {w wr : World} {b off : Nat} {xs : List Shr} (hc : ∀ i (h : i < xs.length) j u, (cSh.f xs[i])[j]? = some u → w.cell? ⟨b, off + i * cSh.sz + j, none⟩ = some u) (hf : Fr Nix w wr) (k : Nat) (hk : k < xs.length) :
    wr.cell? ⟨b, off + k * 4, none⟩ = some (.string xs[k].lo) ∧ wr.cell? ⟨b, off + k * 4 + 1, none⟩ = some (.string xs[k].hi) ∧ wr.cell? ⟨b, off + k * 4 + 2, none⟩ = some (.int .i64 xs[k].g) ∧ wr.cell? ⟨b, off + k * 4 + 3, none⟩ = some (.int .i64 xs[k].e) :=
  ⟨hf.cell' (hc k hk 0 _ rfl), hf.cell' (hc k hk 1 _ rfl), hf.cell' (hc k hk 2 _ rfl), hf.cell' (hc k hk 3 _ rfl)⟩

/-- What is asked of a predicate over shares that is handed over. -/
def PredSh (P : Program) (g : Nat) (lb : Array Value) (p : Shr → Bool) (w : World) : Prop :=
  ∀ W x, Fr Nix w W → Calls P g (#[x.val] ++ lb) W fun e w' => e = .returned (.bool (p x)) ∧ Fr Nix W w'
def idxC {α : Type} (p : α → Bool) : List α → Nat → Int
  | [], _ => -1
  | x :: r, i => if p x then (i : Int) else idxC p r (i + 1)
theorem idxC_at {α : Type} (p : α → Bool) : ∀ (xs : List α) (k i : Nat) (hk : k < xs.length), (∀ j (h : j < k), p (xs[j]'(by omega)) = false) → p xs[k] = true → idxC p xs i = ((i + k : Nat) : Int)
  | x :: r, 0, i, _, _, h => by simp at h; simp [idxC, h]
  | x :: r, k + 1, i, hk, hj, h => by
    have h0 := hj 0 (by omega)
    simp at h0
    rw [idxC, if_neg (by simp [h0]), idxC_at p r k (i + 1) (by simpa using hk) (fun j h => hj (j + 1) (by omega)) (by simpa using h)]
    congr 1
    omega
theorem idxC_none {α : Type} (p : α → Bool) : ∀ (xs : List α) (i : Nat), (∀ j (h : j < xs.length), p xs[j] = false) → idxC p xs i = -1
  | [], _, _ => rfl
  | x :: r, i, h => by
    have h0 := h 0 (by simp)
    simp at h0
    rw [idxC, if_neg (by simp [h0]), idxC_none p r (i + 1) (fun j hj => h (j + 1) (Nat.succ_lt_succ hj))]
theorem idxC_any {α : Type} (p : α → Bool) : ∀ (xs : List α) (i : Nat), decide (0 ≤ idxC p xs i) = xs.any p
  | [], i => by simp [idxC]
  | x :: r, i => by
    rw [idxC, List.any_cons]
    cases h : p x with
    | true => simp
    | false => simp [idxC_any p r (i + 1)]
/-- Either none is so, or the first that is so stands at a place. -/
theorem idxC_cases {α : Type} (p : α → Bool) (xs : List α) : (idxC p xs 0 = -1 ∧ xs.find? p = none) ∨ ∃ k, ∃ h : k < xs.length, idxC p xs 0 = (k : Int) ∧ xs.find? p = some xs[k] ∧ p xs[k] = true := by
  cases hf : xs.findIdx? p with
  | none =>
    rw [List.findIdx?_eq_none_iff] at hf
    refine .inl ⟨idxC_none p xs 0 fun j h => by simpa using hf _ (List.getElem_mem h), ?_⟩
    rw [List.find?_eq_none]
    intro x hx
    simpa using hf x hx
  | some k =>
    obtain ⟨hk, h1, h2⟩ := List.findIdx?_eq_some_iff_getElem.1 hf
    refine .inr ⟨k, hk, ?_, ?_, h1⟩
    · have := idxC_at p xs k 0 hk (fun j h => by simpa using h2 j h) h1
      simpa using this
    · rw [List.find?_eq_some_iff_getElem]
      exact ⟨h1, k, hk, rfl, fun j h => by simpa using h2 j h⟩

set_option maxRecDepth 100000 in
set_option maxHeartbeats 2000000 in
theorem indexFuncSh_any (g : Nat) (lb : Array Value) (p : Shr → Bool) (w : World) (v : Value) (xs : List Shr) (hr : RdSh w v xs) (hp : PredSh Try.prog g lb p w)
    (eg : ∀ args w, (callFunc g args).run Try.prog w = .ok (.enter g args) w) :
    Calls Try.prog 61 #[v, .func (.func g) #[] lb] w fun e w' => e = .returned (.int .i64 (idxC p xs 0)) ∧ Fr Nix w w' := by
  obtain ⟨hm, A, cap, rfl, hr⟩ := hr
  have HP := Lib.hid hp
  clear hp
  have HR := Lib.hid hr
  clear hr
  go_enter Try.func61, Try.ntmps61
  go_wp2
  go_loopg [8] xs.length (fun gg s8 wr => ∃ k : Nat, k ≤ xs.length ∧ xs.length - k ≤ gg ∧ s8 = .int .i64 k ∧ Hid (Fr Nix w wr ∧ ∀ j (h : j < xs.length), j < k → p xs[j] = false))
  case atStart => exact ⟨0, Nat.zero_le _, by omega, rfl, Fr.refl _ _, fun j _ h => absurd h (Nat.not_lt_zero _)⟩
  case round =>
    obtain ⟨k, hk, hg, rfl, H⟩ := hrel
    by_cases hlt : k < xs.length
    · rcases HR.out with h0 | ⟨b, off, rfl, hb, hc⟩
      · rw [h0] at hlt; cases hlt
      obtain ⟨c0, c1, c2, c3⟩ := sh_cells hc H.out.1 k hlt
      have hcall := HP.out wr xs[k] H.out.1
      have HK := Lib.hid hcall
      clear hcall hc
      go_wp2_with fail
      refine HK.out.mono ?_
      rintro e w1 ⟨rfl, h1⟩
      have F1 : Hid (Fr Nix w w1) := H.out.1.trans h1
      clear c0 c1 c2 c3 h1
      cases hq : p xs[k] with
      | true =>
        have HQ := Lib.hid hq
        clear hq
        go_wp2
        go_ret
        refine ⟨ret_int ?_, F1.out⟩
        rw [idxC_at p xs k 0 hlt (fun j h => H.out.2 j (by omega) h) HQ.out, Nat.zero_add]
      | false =>
        have HQ := Lib.hid hq
        clear hq
        go_wp2
        go_roundg (xs.length - (k + 1))
        case measure => omega
        case rel =>
          refine ⟨k + 1, by omega, by omega, by go_num, F1.out, fun j h hj => ?_⟩
          by_cases e : j = k
          · subst e; exact HQ.out
          · exact H.out.2 j h (by omega)
    · have e : k = xs.length := by omega
      subst e
      go_wp2
      go_ret
      exact ⟨ret_int (by rw [idxC_none p xs 0 (fun j h => H.out.2 j h h)]), H.out.1⟩
set_option maxRecDepth 100000 in
theorem containsFuncSh_any (g : Nat) (lb : Array Value) (p : Shr → Bool) (w : World) (v : Value) (xs : List Shr) (hr : RdSh w v xs) (hp : PredSh Try.prog g lb p w)
    (eg : ∀ args w, (callFunc g args).run Try.prog w = .ok (.enter g args) w) :
    Calls Try.prog 63 #[v, .func (.func g) #[] lb] w fun e w' => e = .returned (.bool (xs.any p)) ∧ Fr Nix w w' := by
  have hc := Lib.hid (indexFuncSh_any g lb p w v xs hr hp eg)
  have ha := Lib.hid (idxC_any p xs 0)
  clear hr hp
  go_enter Try.func63, Try.ntmps63
  go_wp2_with fail
  refine hc.out.mono ?_
  rintro e w1 ⟨rfl, h1⟩
  go_wp2
  go_ret
  exact ⟨ret_bool ha.out, h1⟩

def inB (n lo hi : Int) : Bool := decide (lo ≤ n) && decide (n ≤ hi)
set_option maxHeartbeats 1000000 in
theorem withinI_any (n lo hi : Int) (w : World) : Calls Try.prog 29 #[.int .i64 n, .int .i64 lo, .int .i64 hi] w fun e w' => e = .returned (.bool (inB n lo hi)) ∧ w = w' := by
  go_enter Try.func29, Try.ntmps29
  go_wp2
  all_goals
    go_ret
    refine ⟨ret_bool ?_, rfl⟩
    simp [inB, *]
    try omega

end Go.Proofs.Ytpggnelngfpfgaa
