/- Deeds that are read; Pick; light. -/
import Derived.Test.YtnilbpofmohfhaaGreatKitR
import Derived.Test.YtnilbpofmohfhaaGreatGt
namespace Go.Proofs.YtnilbpofmohfhaaGreat
open Go.RowKit

structure Dd where
  kind : Int
  rv : Value
  rows : List Rw
  lo : ByteArray
  hi : ByteArray
def RdD (w : World) (v : Value) (ds : List Dd) : Prop :=
  ds.length ≤ 9223372036854775807 ∧ ∃ A cap, v = .slice A ds.length cap ∧ (ds = [] ∨ ∃ b off, A = some ⟨b, off, none⟩ ∧ b < w.heap.size ∧
    ∀ i (h : i < ds.length), w.cell? ⟨b, off + i * 4, none⟩ = some (.int .i64 ds[i].kind) ∧ w.cell? ⟨b, off + i * 4 + 1, none⟩ = some ds[i].rv ∧ RdR w ds[i].rv ds[i].rows ∧
      w.cell? ⟨b, off + i * 4 + 2, none⟩ = some (.string ds[i].lo) ∧ w.cell? ⟨b, off + i * 4 + 3, none⟩ = some (.string ds[i].hi))
theorem RdD.nix {w w' : World} {v : Value} {ds : List Dd} (h : RdD w v ds) (hf : Fr Nix w w') : RdD w' v ds := by
  obtain ⟨h0, A, cap, e, hr⟩ := h
  refine ⟨h0, A, cap, e, ?_⟩
  rcases hr with h | ⟨b, off, e, hb, hc⟩
  · exact .inl h
  · refine .inr ⟨b, off, e, Nat.lt_of_lt_of_le hb hf.size, fun i hi => ?_⟩
    obtain ⟨c0, c1, c2, c3, c4⟩ := hc i hi
    exact ⟨hf.cell' c0, hf.cell' c1, c2.nix hf, hf.cell' c3, hf.cell' c4⟩
def SmallD (ds : List Dd) : Prop := ∀ d ∈ ds, SmallR d.rows ∧ d.lo.size ≤ 140737488351232 ∧ d.hi.size ≤ 140737488351232 ∧ -9223372036854775808 ≤ d.kind ∧ d.kind < 9223372036854775808

theorem linesN_bound (most : Int) (hm : most ≤ 1000000) : ∀ (l : List Rw) (n : Int), SmallR l → 0 ≤ n → n ≤ 100000000000000 → 0 ≤ linesN most l n ∧ linesN most l n ≤ 100000000000000
  | [], n, _, h0, h1 => ⟨h0, h1⟩
  | x :: r, n, hs, h0, h1 => by
    rw [linesN]
    split
    · have hx := hs x (by simp)
      exact linesN_bound most hm r _ (fun y hy => hs y (by simp [hy])) (by omega) (by omega)
    · exact ⟨h0, h1⟩

set_option maxHeartbeats 1000000 in
theorem pick_any (w : World) (x n : Int) (hn : 1 ≤ n) (hn2 : n ≤ 1000000) (hx : -9223372036854775808 ≤ x) (hx2 : x < 9223372036854775808) :
    Calls Tryz.prog 8 #[.int .i64 x, .int .i64 n] w fun e w' => e = .returned (.int .i64 (x % n)) ∧ w = w' := by
  have hn0 : ¬ n = 0 := by omega
  have hn1 : ¬ n < 1 := by omega
  have e1 : x.tmod n = if 0 ≤ x % n ∧ 0 ≤ x ∨ x % n = 0 then x % n else x % n - n := by
    have h1 := Int.emod_nonneg x hn0
    have h2 := Int.emod_lt_of_pos x (show 0 < n by omega)
    rcases Int.le_total 0 x with h | h
    · rw [if_pos (.inl ⟨h1, h⟩), Int.tmod_eq_emod_of_nonneg h]
    · have h3 := Int.tmod_eq_emod (a := x) (b := n)
      by_cases hd : x % n = 0
      · rw [if_pos (.inr hd), h3]
        have : n ∣ x := Int.dvd_of_emod_eq_zero hd
        simp [this]
      · rw [h3]
        have hnd : ¬ n ∣ x := fun h => hd (Int.emod_eq_zero_of_dvd h)
        have hxn : ¬ 0 ≤ x := fun h' => by
          have : x = 0 := by omega
          rw [this] at hd
          simp at hd
        rw [if_neg (by simp [hnd, hxn]), if_neg (by simp [hxn, hd])]
        omega
  have hlt := Int.emod_lt_of_pos x (show 0 < n by omega)
  have hge := Int.emod_nonneg x hn0
  have hyr : Hid (-1000000 ≤ x.tmod n ∧ x.tmod n ≤ 1000000) := by
    show _ ∧ _
    rw [e1]; split <;> omega
  have hres : Hid (if x.tmod n < 0 then x.tmod n + n = x % n else x.tmod n = x % n) := by
    show if x.tmod n < 0 then x.tmod n + n = x % n else x.tmod n = x % n
    rw [e1]
    split <;> split <;> omega
  clear e1 hlt hge
  by_cases h0 : x.tmod n < 0
  · have hr := hres.out
    rw [if_pos h0] at hr
    have HR := Lib.hid hr
    clear hr hres
    go_enter Tryz.func8, Tryz.ntmps8
    go_wp2
    go_ret
    have hh := hyr.out
    exact ⟨ret_int (by rw [← HR.out]; exact IntWalk.wrap64_in _ (by omega)), rfl⟩
  · have hr := hres.out
    rw [if_neg h0] at hr
    have HR := Lib.hid hr
    clear hr hres
    go_enter Tryz.func8, Tryz.ntmps8
    go_wp2
    go_ret
    exact ⟨ret_int (by rw [← HR.out]), rfl⟩

def deedsN : List Dd → Int → Int
  | [], n => n
  | d :: r, n => if n ≤ 1200 then deedsN r (n + linesN 1200 d.rows 0 + (d.lo.size : Int) / 8 + (d.hi.size : Int) / 8) else n
def lightB (ds : List Dd) : Bool := decide (deedsN ds ds.length ≤ 1200) && decide (ds.length ≤ 60)
theorem linesN_ge (most : Int) : ∀ (l : List Rw) (n : Int), n ≤ linesN most l n
  | [], n => Int.le_refl _
  | x :: r, n => by
    rw [linesN]
    split
    · have := linesN_ge most r (n + 1 + (x.k.size : Int) / 8 + (x.v.size : Int) / 8)
      omega
    · omega
theorem deedsN_ge : ∀ (l : List Dd) (n : Int), n ≤ deedsN l n
  | [], n => Int.le_refl _
  | d :: r, n => by
    rw [deedsN]
    split
    · have := deedsN_ge r (n + linesN 1200 d.rows 0 + (d.lo.size : Int) / 8 + (d.hi.size : Int) / 8)
      have := linesN_ge 1200 d.rows 0
      omega
    · omega
theorem deeds_light : ∀ (l : List Dd) (n : Int), 0 ≤ n → deedsN l n ≤ 1200 → ∀ d ∈ l, linesN 1200 d.rows 0 ≤ 1200
  | [], _, _, _, d, hd => by cases hd
  | x :: r, n, h0, h, d, hd => by
    rw [deedsN] at h
    split at h
    · have h1 := deedsN_ge r (n + linesN 1200 x.rows 0 + (x.lo.size : Int) / 8 + (x.hi.size : Int) / 8)
      have h2 := linesN_ge 1200 x.rows 0
      rcases List.mem_cons.1 hd with rfl | hd
      · omega
      · exact deeds_light r _ (by omega) h d hd
    · omega
theorem light_rows {ds : List Dd} (h : lightB ds = true) : ds.length ≤ 60 ∧ ∀ d ∈ ds, d.rows.length ≤ 1200 := by
  simp only [lightB, Bool.and_eq_true, decide_eq_true_eq] at h
  refine ⟨h.2, fun d hd => ?_⟩
  have := deeds_light ds _ (by omega) h.1 d hd
  have := linesN_length 1200 d.rows 0 this
  omega

set_option maxRecDepth 100000 in
set_option maxHeartbeats 4000000 in
theorem light_any (w : World) (v : Value) (ds : List Dd) (hv : RdD w v ds) (hs : SmallD ds) :
    Calls Tryz.prog 5 #[v] w fun e w' => e = .returned (.bool (lightB ds)) ∧ Fr Nix w w' := by
  obtain ⟨A, c, rfl⟩ : ∃ A c, v = .slice A ds.length c := by obtain ⟨_, A, c, e, _⟩ := hv; exact ⟨A, c, e⟩
  have HV := Lib.hid hv
  have HS := Lib.hid hs
  have hm := hv.1
  clear hv hs
  go_enter Tryz.func5, Tryz.ntmps5
  go_wp2_with fail
  go_loopg [3, 4] ds.length (fun gg s3 s4 wr => ∃ (k : Nat) (n : Int), k ≤ ds.length ∧ ds.length - k ≤ gg ∧ 0 ≤ n ∧ s4 = .int .i64 k ∧ s3 = .int .i64 n ∧ Hid (Fr Nix w wr ∧ deedsN ds ds.length = deedsN (ds.drop k) n))
  case atStart => exact ⟨0, ds.length, Nat.zero_le _, by omega, by omega, rfl, rfl, Fr.refl _ _, by simp⟩
  case round =>
    obtain ⟨k, n, hk, hg, hn0, rfl, rfl, H⟩ := hrel
    have fin : ∀ n' : Int, deedsN ds ds.length = n' → (decide (n' ≤ 1200) && decide ((ds.length : Int) ≤ 60)) = lightB ds := fun n' h => by
      unfold lightB
      rw [h]
      congr 1
      rw [Bool.eq_iff_iff]
      simp
      omega
    have FIN := Lib.hid fin
    clear fin
    by_cases hlt : k < ds.length
    · by_cases hle : n ≤ 1200
      · have hlti : (k : Int) < (ds.length : Int) := by omega
        have hr := HV.out.nix H.out.1
        obtain ⟨_, A', c', e, hr⟩ := hr
        cases e
        rcases hr with h0 | ⟨b, off, rfl, hb, hc⟩
        · rw [h0] at hlt; cases hlt
        obtain ⟨_, x1, x2, x3, x4⟩ := hc k hlt
        obtain ⟨s1, s2, s3, _, _⟩ := HS.out ds[k] (List.getElem_mem hlt)
        have hdr : ds.drop k = ds[k] :: ds.drop (k + 1) := List.drop_eq_getElem_cons hlt
        have hN : Hid (deedsN ds ds.length = deedsN (ds.drop (k + 1)) (n + linesN 1200 ds[k].rows 0 + (ds[k].lo.size : Int) / 8 + (ds[k].hi.size : Int) / 8)) := by
          show _ = _
          rw [H.out.2, hdr, deedsN, if_pos hle]
        have hbd := linesN_bound 1200 (by omega) ds[k].rows 0 s1 (by omega) (by omega)
        have HLN : ∀ m : Gt wr, Hid (Calls Tryz.prog 23 #[ds[k].rv, .int .i64 1200] m.w fun e w' => e = .returned (.int .i64 (linesN 1200 ds[k].rows 0)) ∧ Fr Nix m.w w') := fun m => linesOf_any m.w _ ds[k].rows 1200 (x2.nix m.fr) s1 (by decide) (by decide)
        obtain ⟨Ar, cr, er⟩ : ∃ A c, ds[k].rv = .slice A ds[k].rows.length c := by obtain ⟨_, A, c, e, _⟩ := x2; exact ⟨A, c, e⟩
        rw [er] at x1 HLN
        clear x2 s1 hc hdr er
        generalize ds[k].lo = lo at *
        generalize ds[k].hi = hi at *
        generalize ds[k].rows.length = rn at *
        generalize linesN 1200 ds[k].rows 0 = ln at *
        have z1 := Gt.cell x1
        have z3 := Gt.cell x3
        have z4 : ∀ m : Gt wr, m.w.cell? ⟨b, off + k * 4 + 2 + 1, none⟩ = some (.string hi) := Gt.cell x4
        have w1 : IntKind.i64.wrap (n + ln) = n + ln := IntWalk.i64_in _ (by omega)
        have w2 : IntKind.i64.wrap ((lo.size : Int) / 8) = (lo.size : Int) / 8 := IntWalk.i64_in _ (by omega)
        have w3 : IntKind.i64.wrap ((hi.size : Int) / 8) = (hi.size : Int) / 8 := IntWalk.i64_in _ (by omega)
        have w4 : IntKind.i64.wrap (n + ln + (lo.size : Int) / 8) = n + ln + (lo.size : Int) / 8 := IntWalk.i64_in _ (by omega)
        have w5 : IntKind.i64.wrap (n + ln + (lo.size : Int) / 8 + (hi.size : Int) / 8) = n + ln + (lo.size : Int) / 8 + (hi.size : Int) / 8 := IntWalk.i64_in _ (by omega)
        clear x1 x3 x4
        go_wp2_with fail
        refine wp_region_gt (by kernel_rfl) (by kernel_rfl) ?_
        repeat (go_big_quiet_step ((go_at_call 23; exact (HLN _).out.gt)))
        refine wpQuiet_nil ?_
        rintro _ ⟨⟨w9, h9⟩, rfl⟩
        go_wp2_with fail
        go_roundg (ds.length - (k + 1))
        case measure => omega
        case rel => exact ⟨k + 1, _, by omega, by omega, by omega, by go_num, rfl, H.out.1.nix h9, hN.out⟩
      · have hle2 : ¬ n ≤ 1200 := hle
        have hN : Hid (deedsN ds ds.length = n) := by
          show _ = _
          rw [H.out.2, List.drop_eq_getElem_cons hlt, deedsN, if_neg hle]
        have hfin := FIN.out n hN.out
        rw [decide_eq_false hle] at hfin
        have HF := Lib.hid hfin
        clear hfin
        go_wp2_with fail
        go_ret
        exact ⟨ret_bool (by rw [← HF.out]; rfl), H.out.1⟩
    · obtain rfl : k = ds.length := by omega
      have hN : Hid (deedsN ds ds.length = n) := by
        show _ = _
        rw [H.out.2, List.drop_length, deedsN]
      have hfin := FIN.out n hN.out
      by_cases hle : n ≤ 1200
      · rw [decide_eq_true hle] at hfin
        have HF := Lib.hid hfin
        clear hfin
        go_wp2_with fail
        go_ret
        exact ⟨ret_bool (by rw [← HF.out]; simp), H.out.1⟩
      · rw [decide_eq_false hle] at hfin
        have HF := Lib.hid hfin
        clear hfin
        go_wp2_with fail
        go_ret
        exact ⟨ret_bool (by rw [← HF.out]; simp), H.out.1⟩
end Go.Proofs.YtnilbpofmohfhaaGreat
