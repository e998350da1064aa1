/- RowsRuns: the walk (printed by genruns.py). -/
import Derived.Test.YtnilbpofmohfhaaGreatRunsP
namespace Go.Proofs.YtnilbpofmohfhaaGreat
open Go.RowKit

set_option maxRecDepth 100000 in
set_option maxHeartbeats 16000000 in
theorem rowsRuns_any (w : World) (v u ks : Value) (fork : Int) (l more : List Dd) (keys : List ByteArray) (hv : RdD w v l) (hsl : SmallD l) (hu : RdD w u more) (hsm : SmallD more) (hks : Rd1 Value.string w ks keys)
    (hf0 : -9223372036854775808 ≤ fork) (hf1 : fork < 9223372036854775808) :
    Calls Tryz.prog 3 #[v, .int .i64 fork, u, ks] w fun e w' => e = .returned (.bool true) ∧ Fr Nix w w' := by
  obtain ⟨A, c, rfl⟩ : ∃ A c, v = .slice A l.length c := by obtain ⟨_, A, c, e, _⟩ := hv; exact ⟨A, c, e⟩
  obtain ⟨A', c', rfl⟩ : ∃ A c, u = .slice A more.length c := by obtain ⟨_, A, c, e, _⟩ := hu; exact ⟨A, c, e⟩
  obtain ⟨AK, cK, rfl⟩ := hks.form
  have HV := Lib.hid hv
  have HSL := Lib.hid hsl
  have HU := Lib.hid hu
  have HSM := Lib.hid hsm
  have HKS := Lib.hid hks
  clear hv hsl hu hsm hks
  go_enter Tryz.func3, Tryz.ntmps3
  go_wp2_with fail
  refine (light_any w _ l HV.out HSL.out).mono ?_
  rintro e w1 ⟨rfl, h1⟩
  have F1 := Lib.hid h1
  clear h1
  cases hll : lightB l with
  | false =>
    clear hll
    go_wp2_with fail
    refine (awake_any _).mono ?_
    rintro e w2 ⟨rfl, h1⟩
    go_wp2_with fail
    go_ret
    exact ⟨rfl, F1.out.nix h1⟩
  | true =>
  have hli := light_rows hll
  clear hll
  go_wp2_with fail
  refine (light_any w1 _ more (HU.out.nix F1.out) HSM.out).mono ?_
  rintro e w2 ⟨rfl, h1⟩
  have F2 : Hid (Fr Nix w w2) := F1.out.nix h1
  clear h1 F1
  cases hlm : lightB more with
  | false =>
    clear hlm hli
    go_wp2_with fail
    refine (awake_any _).mono ?_
    rintro e w3 ⟨rfl, h1⟩
    go_wp2_with fail
    go_ret
    exact ⟨rfl, F2.out.nix h1⟩
  | true =>
  have hlj := light_rows hlm
  clear hlm
  by_cases hat : (200 : Int) < (keys.length : Int)
  · clear hli hlj
    go_wp2_with fail
    refine (awake_any _).mono ?_
    rintro e w3 ⟨rfl, h1⟩
    go_wp2_with fail
    go_ret
    exact ⟨rfl, F2.out.nix h1⟩
  have hal : keys.length ≤ 200 := by omega
  have hdl := hli.1
  have hdm := hlj.1
  have HLL := Lib.hid hli.2
  have HLM := Lib.hid hlj.2
  clear hli hlj
  have hwl : IntKind.i64.wrap ((l.length : Int) + 1) = (l.length : Int) + 1 := IntWalk.i64_in ((l.length : Int) + 1) (by omega)
  have hp0 := Int.emod_nonneg fork (show ((l.length : Int) + 1) ≠ 0 by omega)
  have hp1 := Int.emod_lt_of_pos fork (show (0 : Int) < (l.length : Int) + 1 by omega)
  have HPI := fun W => Lib.hid (pick_any W fork ((l.length : Int) + 1) (by omega) (by omega) hf0 hf1)
  obtain ⟨p, hp⟩ : ∃ p : Nat, fork % ((l.length : Int) + 1) = (p : Int) := ⟨(fork % ((l.length : Int) + 1)).toNat, by omega⟩
  rw [hp] at HPI hp0 hp1
  have hpl : p ≤ l.length := by omega
  clear hp hp0 hp1 hf0 hf1
  go_wp2_with fail
  refine (newT_any _).mono ?_
  rintro e w3 ⟨rfl, h1, h2, h3⟩
  obtain ⟨T, hT⟩ : ∃ T, w2.heap.size = T := ⟨_, rfl⟩
  rw [hT] at h1 h3 ⊢
  have hTw : w.heap.size ≤ T := by rw [← hT]; exact F2.out.size
  have H1 := Lib.hid h1
  have H3 : Hid (∀ k, FootT w3 T k → w.heap.size ≤ k) := fun k hk => Nat.le_trans hTw (h3 k hk)
  have F3 : Hid (Fr Nix w w3) := F2.out.nix h2
  clear h1 h2 h3 hT F2 hTw
  go_wp2_with fail
  refine (HPI _).out.mono ?_
  rintro e w4 ⟨rfl, hw4⟩
  obtain ⟨m, hm⟩ : ∃ m, w3.heap.size = m := ⟨_, rfl⟩
  have BM : Hid (Blk w4 m [.slice none 0 0] 31) := by rw [← hw4, ← hm]; exact Blk.new w3 [.slice none 0 0] _
  have F34 : Hid (Fr Nix w3 w4) := by rw [← hw4]; exact (Fr.refl _ _).alloc _
  have hm2 : Hid (m < w4.heap.size) := BM.out.lt
  rw [hm]
  clear hw4 HPI
  go_wp2_with fail
  obtain ⟨m2, hm2e⟩ : ∃ m2, w4.heap.size = m2 := ⟨_, rfl⟩
  obtain ⟨w5, hw5⟩ : ∃ w5, w4.alloc (.cells #[.slice none 0 0] 31) = w5 := ⟨_, rfl⟩
  have F35 : Hid (Fr Nix w3 w5) := by rw [← hw5]; exact F34.out.alloc _
  have BM2 : Hid (Blk w5 m2 [.slice none 0 0] 31) := by rw [← hw5, ← hm2e]; exact Blk.new w4 [.slice none 0 0] _
  have BM5 : Hid (Blk w5 m [.slice none 0 0] 31) := by rw [← hw5]; exact BM.out.alloc _
  have S0 := Lib.hid (start_pair H1.out H3.out F35.out (Nat.le_of_eq hm) (by rw [← hm2e]; exact hm2.out) F3.out.size BM5.out BM2.out)
  have F5 : Hid (Fr Nix w w5) := F3.out.nix F35.out
  rw [hw5, hm2e]
  clear hw5 hm2e hm2 hm BM BM2 BM5 F35 F34 F3 H1 H3
  have L0 : Hid (∃ xs, Pr w.heap.size w5 T m xs ∧ Fr Nix w w5 ∧ ((0 ≤ p ∧ Value.pointer none = Value.pointer none ∧ One w.heap.size w5 T m m2) ∨ (p < 0 ∧ ∃ b2 ys, Value.pointer none = .pointer (some ⟨b2, 0, none⟩) ∧ Pr w.heap.size w5 b2 m2 ys ∧ Sep w5 T m b2 m2))) :=
    ⟨_, S0.out.1, F5.out, .inl ⟨Nat.zero_le _, rfl, S0.out.2⟩⟩
  go_loopg [12, 14] (l.length + 1) (fun gg s12 s14 wr => ∃ k : Nat, k ≤ l.length + 1 ∧ l.length + 1 - k ≤ gg ∧ s14 = .int .i64 k ∧ Hid (∃ xs, Pr w.heap.size wr T m xs ∧ Fr Nix w wr ∧ ((k ≤ p ∧ s12 = Value.pointer none ∧ One w.heap.size wr T m m2) ∨ (p < k ∧ ∃ b2 ys, s12 = .pointer (some ⟨b2, 0, none⟩) ∧ Pr w.heap.size wr b2 m2 ys ∧ Sep wr T m b2 m2))))
  case atStart => exact ⟨0, Nat.zero_le _, by omega, rfl, L0.out⟩
  case round =>
    clear L0 S0 F5
    obtain ⟨k, hk, hg, rfl, H⟩ := hrel
    obtain ⟨xs, p1, p2, p3⟩ := H.out
    have PW := Lib.hid p1
    have FW := Lib.hid p2
    clear p1 p2 H
    rcases p3 with ⟨hkp, rfl, o1⟩ | ⟨hkp, b2, zs, rfl, o1, o2⟩
    · have OW := Lib.hid o1
      clear o1
      by_cases hpe : k = p
      · subst hpe
        by_cases hlt : k < l.length
        · have hlti : (k : Int) < (l.length : Int) := by omega
          have hlei : (k : Int) ≤ (l.length : Int) := by omega
          have hlti1 : (k : Int) < (l.length : Int) + 1 := by omega
          go_wp2_with fail
          refine (copyT_any wr T xs PW.out.both.t).mono ?_
          rintro e w5 ⟨b2, rfl, c1, c2, c3⟩
          obtain ⟨A5, c5, hc5, hr5⟩ := (PW.out.both.d.nix c2).cell
          have HR5 := Lib.hid hr5
          have C1 := Lib.hid c1
          have C2 := Lib.hid c2
          have C3 := Lib.hid c3
          clear c1 c2 c3 hr5
          have hxl : xs.length ≤ 400 := PW.out.both.g.2.2
          go_wp2_with fail
          refine (copyLines_any w5 _ xs HR5.out (by omega)).mono ?_
          rintro e w6 ⟨v6, rfl, d1, d2, d3⟩
          obtain ⟨A6, L6, c6, rfl⟩ := d1.form
          obtain ⟨W7, hW7⟩ : ∃ W7, w6.setCell ⟨m2, 0, none⟩ (.slice A6 L6 c6) = W7 := ⟨_, rfl⟩
          have FP := Lib.hid (fork_pair PW.out OW.out C1.out C2.out C3.out d1 d2 d3 FW.out.size)
          have FX : Hid (Fr Nix w (w6.setCell ⟨m2, 0, none⟩ (.slice A6 L6 c6))) := (((FW.out.nix C2.out).nix d3).setCell (p := ⟨m2, 0, none⟩) (.inl (OW.out.new m2 (.inl rfl))) _)
          obtain ⟨v0, hb0, _⟩ := (OW.out.d.nix C2.out).nix d3
          have z0 : w6.cell? ⟨m2, 0, none⟩ = some v0 := hb0.cell 0
          have z1 : w6.frozen? ⟨m2, 0, none⟩ = false := hb0.frozen 0
          rw [hW7] at FP FX
          have PX := Lib.hid FP.out.1
          have QX := Lib.hid FP.out.2.1
          have SX := Lib.hid FP.out.2.2
          clear d1 d2 d3 hb0 C1 C2 C3 HR5 hc5 FP PW OW FW

          have HR := HV.out.at FX.out k hlt
          obtain ⟨bD, off, eA, x0, x1, x2, x3, x4⟩ := HR
          have hlow := HV.out.low k hlt
          obtain ⟨_, _, _, s4, s5⟩ := HSL.out l[k] (List.getElem_mem hlt)
          have hrl := HLL.out l[k] (List.getElem_mem hlt)
          have X2 := Lib.hid x2
          have LOW := Lib.hid hlow
          obtain ⟨Ar, cr, er⟩ : ∃ A c, l[k].rv = .slice A l[k].rows.length c := by obtain ⟨_, A, c, e, _⟩ := x2; exact ⟨A, c, e⟩
          rw [er] at x1 X2 LOW
          have x5 : (W7).cell? ⟨bD, off + k * 4 + 2 + 1, none⟩ = some (.string l[k].hi) := x4
          clear x2 er hlow
          generalize l[k].lo = dlo at *
          generalize l[k].hi = dhi at *
          generalize l[k].kind = kd at *
          generalize l[k].rows = rws at *

          subst eA
          have HRF : Hid (rws ≠ [] → ∀ i, (Value.slice Ar rws.length cr).ownBlock = some i → ¬ FootT (W7) T i ∧ ¬ FootM (W7) m i) := fun hne i hi => by
            have h1 := LOW.out hne i hi
            exact ⟨fun h => by have := PX.out.new i (.inl h); omega, fun h => by have := PX.out.new i (.inr h); omega⟩
          clear LOW
          go_wp2_with fail
          refine (act_any _ T m _ kd _ rws dlo dhi PX.out.both s4 s5 X2.out hrl HRF.out).mono ?_
          rintro e w7 ⟨rfl, ⟨ys, hb⟩, st⟩
          have N := Lib.hid (PX.out.step QX.out SX.out hb st (FX.out.size))
          have F8 : Hid (Fr Nix w w7) := PX.out.frame FX.out st (Nat.le_refl _)
          clear st hb
          go_wp2_with fail
          refine (same_any w7 T m ys N.out.1.both).mono ?_
          rintro e w8 ⟨rfl, h8⟩
          go_wp2_with fail
          go_roundg (l.length + 1 - (k + 1))
          case measure => omega
          case rel => exact ⟨k + 1, by omega, by omega, by go_num, ⟨_, N.out.1.nix h8, F8.out.nix h8, .inr ⟨by omega, _, _, rfl, N.out.2.1.nix h8, N.out.2.2.1.nix N.out.1 N.out.2.1 h8⟩⟩⟩
        · obtain rfl : k = l.length := by omega
          go_wp2_with fail
          refine (copyT_any wr T xs PW.out.both.t).mono ?_
          rintro e w5 ⟨b2, rfl, c1, c2, c3⟩
          obtain ⟨A5, c5, hc5, hr5⟩ := (PW.out.both.d.nix c2).cell
          have HR5 := Lib.hid hr5
          have C1 := Lib.hid c1
          have C2 := Lib.hid c2
          have C3 := Lib.hid c3
          clear c1 c2 c3 hr5
          have hxl : xs.length ≤ 400 := PW.out.both.g.2.2
          go_wp2_with fail
          refine (copyLines_any w5 _ xs HR5.out (by omega)).mono ?_
          rintro e w6 ⟨v6, rfl, d1, d2, d3⟩
          obtain ⟨A6, L6, c6, rfl⟩ := d1.form
          obtain ⟨W7, hW7⟩ : ∃ W7, w6.setCell ⟨m2, 0, none⟩ (.slice A6 L6 c6) = W7 := ⟨_, rfl⟩
          have FP := Lib.hid (fork_pair PW.out OW.out C1.out C2.out C3.out d1 d2 d3 FW.out.size)
          have FX : Hid (Fr Nix w (w6.setCell ⟨m2, 0, none⟩ (.slice A6 L6 c6))) := (((FW.out.nix C2.out).nix d3).setCell (p := ⟨m2, 0, none⟩) (.inl (OW.out.new m2 (.inl rfl))) _)
          obtain ⟨v0, hb0, _⟩ := (OW.out.d.nix C2.out).nix d3
          have z0 : w6.cell? ⟨m2, 0, none⟩ = some v0 := hb0.cell 0
          have z1 : w6.frozen? ⟨m2, 0, none⟩ = false := hb0.frozen 0
          rw [hW7] at FP FX
          have PX := Lib.hid FP.out.1
          have QX := Lib.hid FP.out.2.1
          have SX := Lib.hid FP.out.2.2
          clear d1 d2 d3 hb0 C1 C2 C3 HR5 hc5 FP PW OW FW

          go_wp2_with fail
          go_roundg (l.length + 1 - (l.length + 1))
          case measure => omega
          case rel => exact ⟨l.length + 1, by omega, by omega, by go_num, _, PX.out, FX.out, .inr ⟨by omega, _, _, rfl, QX.out, SX.out⟩⟩
      · have hpi : ¬ (k : Int) = (p : Int) := by omega
        have hlt : k < l.length := by omega
        have hlti : (k : Int) < (l.length : Int) := by omega
        have hlei : (k : Int) ≤ (l.length : Int) := by omega
        have PX := Lib.hid PW.out
        have OX := Lib.hid OW.out
        have FX := Lib.hid FW.out
        clear PW OW FW
        have HR := HV.out.at FX.out k hlt
        obtain ⟨bD, off, eA, x0, x1, x2, x3, x4⟩ := HR
        have hlow := HV.out.low k hlt
        obtain ⟨_, _, _, s4, s5⟩ := HSL.out l[k] (List.getElem_mem hlt)
        have hrl := HLL.out l[k] (List.getElem_mem hlt)
        have X2 := Lib.hid x2
        have LOW := Lib.hid hlow
        obtain ⟨Ar, cr, er⟩ : ∃ A c, l[k].rv = .slice A l[k].rows.length c := by obtain ⟨_, A, c, e, _⟩ := x2; exact ⟨A, c, e⟩
        rw [er] at x1 X2 LOW
        have x5 : (wr).cell? ⟨bD, off + k * 4 + 2 + 1, none⟩ = some (.string l[k].hi) := x4
        clear x2 er hlow
        generalize l[k].lo = dlo at *
        generalize l[k].hi = dhi at *
        generalize l[k].kind = kd at *
        generalize l[k].rows = rws at *

        subst eA
        have HRF : Hid (rws ≠ [] → ∀ i, (Value.slice Ar rws.length cr).ownBlock = some i → ¬ FootT (wr) T i ∧ ¬ FootM (wr) m i) := fun hne i hi => by
          have h1 := LOW.out hne i hi
          exact ⟨fun h => by have := PX.out.new i (.inl h); omega, fun h => by have := PX.out.new i (.inr h); omega⟩
        clear LOW
        go_wp2_with fail
        refine (act_any _ T m _ kd _ rws dlo dhi PX.out.both s4 s5 X2.out hrl HRF.out).mono ?_
        rintro e w7 ⟨rfl, ⟨ys, hb⟩, st⟩
        have N := Lib.hid (One.step PX.out OX.out hb st (FX.out.size))
        have F8 : Hid (Fr Nix w w7) := PX.out.frame FX.out st (Nat.le_refl _)
        clear st hb
        go_wp2_with fail
        refine (same_any w7 T m ys N.out.1.both).mono ?_
        rintro e w8 ⟨rfl, h8⟩
        go_wp2_with fail
        go_roundg (l.length + 1 - (k + 1))
        case measure => omega
        case rel => exact ⟨k + 1, by omega, by omega, by go_num, ⟨_, N.out.1.nix h8, F8.out.nix h8, .inl ⟨by omega, rfl, N.out.2.nix N.out.1 h8⟩⟩⟩
    · have QW := Lib.hid o1
      have SW := Lib.hid o2
      clear o1 o2
      have hpi : ¬ (k : Int) = (p : Int) := by omega
      have PX := Lib.hid PW.out
      have QX := Lib.hid QW.out
      have SX := Lib.hid SW.out
      have FX := Lib.hid FW.out
      clear PW QW SW FW
      by_cases hlt : k < l.length
      · have hlti : (k : Int) < (l.length : Int) := by omega
        have hlei : (k : Int) ≤ (l.length : Int) := by omega
        have HR := HV.out.at FX.out k hlt
        obtain ⟨bD, off, eA, x0, x1, x2, x3, x4⟩ := HR
        have hlow := HV.out.low k hlt
        obtain ⟨_, _, _, s4, s5⟩ := HSL.out l[k] (List.getElem_mem hlt)
        have hrl := HLL.out l[k] (List.getElem_mem hlt)
        have X2 := Lib.hid x2
        have LOW := Lib.hid hlow
        obtain ⟨Ar, cr, er⟩ : ∃ A c, l[k].rv = .slice A l[k].rows.length c := by obtain ⟨_, A, c, e, _⟩ := x2; exact ⟨A, c, e⟩
        rw [er] at x1 X2 LOW
        have x5 : (wr).cell? ⟨bD, off + k * 4 + 2 + 1, none⟩ = some (.string l[k].hi) := x4
        clear x2 er hlow
        generalize l[k].lo = dlo at *
        generalize l[k].hi = dhi at *
        generalize l[k].kind = kd at *
        generalize l[k].rows = rws at *

        subst eA
        have HRF : Hid (rws ≠ [] → ∀ i, (Value.slice Ar rws.length cr).ownBlock = some i → ¬ FootT (wr) T i ∧ ¬ FootM (wr) m i) := fun hne i hi => by
          have h1 := LOW.out hne i hi
          exact ⟨fun h => by have := PX.out.new i (.inl h); omega, fun h => by have := PX.out.new i (.inr h); omega⟩
        clear LOW
        go_wp2_with fail
        refine (act_any _ T m _ kd _ rws dlo dhi PX.out.both s4 s5 X2.out hrl HRF.out).mono ?_
        rintro e w7 ⟨rfl, ⟨ys, hb⟩, st⟩
        have N := Lib.hid (PX.out.step QX.out SX.out hb st (FX.out.size))
        have F8 : Hid (Fr Nix w w7) := PX.out.frame FX.out st (Nat.le_refl _)
        clear st hb
        go_wp2_with fail
        refine (same_any w7 T m ys N.out.1.both).mono ?_
        rintro e w8 ⟨rfl, h8⟩
        go_wp2_with fail
        go_roundg (l.length + 1 - (k + 1))
        case measure => omega
        case rel => exact ⟨k + 1, by omega, by omega, by go_num, ⟨_, N.out.1.nix h8, F8.out.nix h8, .inr ⟨by omega, _, _, rfl, N.out.2.1.nix h8, N.out.2.2.1.nix N.out.1 N.out.2.1 h8⟩⟩⟩
      · by_cases hke : k = l.length
        · subst hke
          have hlei : (l.length : Int) ≤ (l.length : Int) := Int.le_refl _
          have hlti : ¬ (l.length : Int) < (l.length : Int) := by omega
          clear HV HSL HLL
          go_wp2_with fail
          go_roundg (l.length + 1 - (l.length + 1))
          case measure => omega
          case rel => exact ⟨l.length + 1, by omega, by omega, by go_num, _, PX.out, FX.out, .inr ⟨by omega, _, _, rfl, QX.out, SX.out⟩⟩
        · obtain rfl : k = l.length + 1 := by omega
          have hlei : ¬ ((l.length + 1 : Nat) : Int) ≤ (l.length : Int) := by omega
          clear hk hg hlt hke hpi hkp HV HSL HLL
          go_wp2_with fail
          have L1 : Hid (∃ xs ys, Pr w.heap.size wr T m xs ∧ Pr w.heap.size wr b2 m2 ys ∧ Sep wr T m b2 m2 ∧ Fr Nix w wr) := ⟨_, _, PX.out, QX.out, SX.out, FX.out⟩
          clear PX QX SX FX
          go_loopg [15] more.length (fun gg s15 wr => ∃ k : Nat, k ≤ more.length ∧ more.length - k ≤ gg ∧ s15 = .int .i64 k ∧ Hid (∃ xs ys, Pr w.heap.size wr T m xs ∧ Pr w.heap.size wr b2 m2 ys ∧ Sep wr T m b2 m2 ∧ Fr Nix w wr))
          case atStart => exact ⟨0, Nat.zero_le _, by omega, rfl, L1.out⟩
          case round =>
            clear L1
            obtain ⟨k, hk, hg, rfl, H⟩ := hrel
            obtain ⟨xs, zs, p1, p2, p3, p4⟩ := H.out
            have PX := Lib.hid p1
            have QX := Lib.hid p2
            have SX := Lib.hid p3
            have FX := Lib.hid p4
            clear p1 p2 p3 p4 H
            by_cases hlt : k < more.length
            · have hlti : (k : Int) < (more.length : Int) := by omega
              have HR := HU.out.at FX.out k hlt
              obtain ⟨bD, off, eA, x0, x1, x2, x3, x4⟩ := HR
              have hlow := HU.out.low k hlt
              obtain ⟨_, _, _, s4, s5⟩ := HSM.out more[k] (List.getElem_mem hlt)
              have hrl := HLM.out more[k] (List.getElem_mem hlt)
              have X2 := Lib.hid x2
              have LOW := Lib.hid hlow
              obtain ⟨Ar, cr, er⟩ : ∃ A c, more[k].rv = .slice A more[k].rows.length c := by obtain ⟨_, A, c, e, _⟩ := x2; exact ⟨A, c, e⟩
              rw [er] at x1 X2 LOW
              have x5 : (wr).cell? ⟨bD, off + k * 4 + 2 + 1, none⟩ = some (.string more[k].hi) := x4
              clear x2 er hlow
              generalize more[k].lo = dlo at *
              generalize more[k].hi = dhi at *
              generalize more[k].kind = kd at *
              generalize more[k].rows = rws at *

              subst eA
              have HRF : Hid (rws ≠ [] → ∀ i, (Value.slice Ar rws.length cr).ownBlock = some i → ¬ FootT wr b2 i ∧ ¬ FootM wr m2 i) := fun hne i hi => by
                have h1 := LOW.out hne i hi
                exact ⟨fun h => by have := QX.out.new i (.inl h); omega, fun h => by have := QX.out.new i (.inr h); omega⟩
              clear LOW
              go_wp2_with fail
              refine (act_any _ b2 m2 _ kd _ rws dlo dhi QX.out.both s4 s5 X2.out hrl HRF.out).mono ?_
              rintro e w7 ⟨rfl, ⟨ys, hb⟩, st⟩
              have N := Lib.hid (QX.out.step PX.out (fun i h1 h2 => SX.out i h2 h1) hb st (FX.out.size))
              have F8 : Hid (Fr Nix w w7) := QX.out.frame FX.out st (Nat.le_refl _)
              clear st hb
              go_wp2_with fail
              refine (same_any w7 b2 m2 ys N.out.1.both).mono ?_
              rintro e w8 ⟨rfl, h8⟩
              go_wp2_with fail
              go_roundg (more.length - (k + 1))
              case measure => omega
              case rel => exact ⟨k + 1, by omega, by omega, by go_num, _, _, N.out.2.1.nix h8, N.out.1.nix h8, N.out.2.2.2.nix N.out.2.1 N.out.1 h8, F8.out.nix h8⟩
            · obtain rfl : k = more.length := by omega
              clear hk hg hlt HU HSM HLM
              obtain ⟨wp, hwp⟩ : ∃ x, x = wr := ⟨_, rfl⟩
              subst hwp
              go_wp2_with fail
              go_loopg [16] keys.length (fun gg s16 wr => ∃ k : Nat, k ≤ keys.length ∧ keys.length - k ≤ gg ∧ s16 = .int .i64 k ∧ Hid (Fr Nix wp wr))
              case atStart => exact ⟨0, Nat.zero_le _, by omega, rfl, Fr.refl _ _⟩
              case round =>
                obtain ⟨k, hk, hg, rfl, H⟩ := hrel
                by_cases hlt : k < keys.length
                · have hlti : (k : Int) < (keys.length : Int) := by omega
                  obtain ⟨_, AK', cK', e, hr⟩ := (HKS.out.nix (FX.out.nix H.out))
                  cases e
                  rcases hr with h0 | ⟨bK, off, rfl, hb, hc⟩
                  · rw [h0] at hlt; cases hlt
                  have x0 := hc k hlt
                  clear hc hb
                  generalize keys[k] = key at x0
                  have HG := Lib.hid (get_any wr T xs key ((PX.out.nix H.out).both.t))
                  have HE := val_hit key PX.out.both.g.1
                  rw [get_same key PX.out.both.g.1, HE.1] at HG
                  have HM := fun W (h : Fr Nix wp W) => Lib.hid (getM_any W m xs key ((PX.out.nix h).both.d))
                  clear HE
                  generalize vOr (valR key xs) = gv at HG HM
                  cases hq : (valR key xs).isSome with
                  | true =>
                    rw [hq] at HG HM
                    clear hq
                    go_wp2_with fail
                    refine HG.out.mono ?_
                    rintro e w5 ⟨rfl, h5⟩
                    have H5 : Hid (Fr Nix wp w5) := H.out.nix h5
                    have x1 : w5.cell? ⟨bK, off + k, none⟩ = some (.string key) := h5.cell' (by simpa using x0)
                    clear HG h5 x0
                    go_wp2_with fail
                    refine (HM w5 H5.out).out.mono ?_
                    rintro e w6 ⟨rfl, rfl⟩
                    clear HM
                    go_wp2_with fail
                    go_roundg (keys.length - (k + 1))
                    case measure => omega
                    case rel => exact ⟨k + 1, by omega, by omega, by go_num, H5.out⟩
                  | false =>
                    rw [hq] at HG HM
                    clear hq
                    go_wp2_with fail
                    refine HG.out.mono ?_
                    rintro e w5 ⟨rfl, h5⟩
                    have H5 : Hid (Fr Nix wp w5) := H.out.nix h5
                    have x1 : w5.cell? ⟨bK, off + k, none⟩ = some (.string key) := h5.cell' (by simpa using x0)
                    clear HG h5 x0
                    go_wp2_with fail
                    refine (HM w5 H5.out).out.mono ?_
                    rintro e w6 ⟨rfl, rfl⟩
                    clear HM
                    go_wp2_with fail
                    go_roundg (keys.length - (k + 1))
                    case measure => omega
                    case rel => exact ⟨k + 1, by omega, by omega, by go_num, H5.out⟩
                · obtain rfl : k = keys.length := by omega
                  clear hk hg hlt HKS
                  have P1 : Hid (Pr w.heap.size wr T m xs) := PX.out.nix H.out
                  have P2 : Hid (Pr w.heap.size wr b2 m2 zs) := QX.out.nix H.out
                  have F1 : Hid (Fr Nix w wr) := FX.out.nix H.out
                  clear PX QX SX FX H
                  go_wp2_with fail
                  refine (same_any wr T m xs P1.out.both).mono ?_
                  rintro e w7 ⟨rfl, h7⟩
                  go_wp2_with fail
                  refine (same_any w7 b2 m2 zs (P2.out.nix h7).both).mono ?_
                  rintro e w8 ⟨rfl, h8⟩
                  have P8 : Hid (Pr w.heap.size w8 T m xs) := (P1.out.nix h7).nix h8
                  have F8 : Hid (Fr Nix w w8) := (F1.out.nix h7).nix h8
                  clear h7 h8 P1 P2 F1
                  go_wp2_with fail
                  refine (in_any w8 T xs _ _ P8.out.both.t).mono ?_
                  rintro e w9 ⟨v9, rfl, q1, q2, q3⟩
                  have HIE : inR ⟨#[]⟩ ⟨#[]⟩ xs = xs := in_every P8.out.both.g
                  have hxl : xs.length ≤ 400 := P8.out.both.g.2.2
                  rw [HIE] at q1
                  have P9 : Hid (Pr w.heap.size w9 T m xs) := P8.out.nix q3
                  have F9 : Hid (Fr Nix w w9) := F8.out.nix q3
                  have Q9 := Lib.hid q1
                  have N9 : Hid (∀ k, v9.ownBlock = some k → (w.heap.size ≤ k ∧ k < w9.heap.size) ∧ ¬ (FootT w9 T k ∨ FootM w9 m k)) := fun k hk => ⟨⟨Nat.le_trans F8.out.size (q2 k hk), own_lt q1 k hk⟩, fun h => by
                    have h1 := q2 k hk
                    have := P8.out.lt ((P8.out.foot q3 (fun _ _ h => h) k).1 h)
                    omega⟩
                  clear q1 q2 q3 P8 F8
                  obtain ⟨A9, n9, c9, rfl⟩ := Q9.out.form
                  go_wp2_with fail
                  refine (in_any w9 T xs _ _ P9.out.both.t).mono ?_
                  rintro e w10 ⟨v10, rfl, q1, q2, q3⟩
                  rw [HIE] at q1
                  have P10 : Hid (Pr w.heap.size w10 T m xs) := P9.out.nix q3
                  have F10 : Hid (Fr Nix w w10) := F9.out.nix q3
                  have Q10 := Lib.hid q1
                  have Q9' : Hid (OwnR w10 (.slice A9 n9 c9) xs) := Q9.out.mono q3 (fun _ _ h => h)
                  have N9' : Hid (∀ k, (Value.slice A9 n9 c9).ownBlock = some k → (w.heap.size ≤ k ∧ k < w9.heap.size) ∧ ¬ (FootT w10 T k ∨ FootM w10 m k)) := fun k hk => ⟨(N9.out k hk).1, fun h => (N9.out k hk).2 ((P9.out.foot q3 (fun _ _ h => h) k).1 h)⟩
                  have hw9 := F9.out.size
                  have N10 : Hid (∀ k, v10.ownBlock = some k → w9.heap.size ≤ k ∧ ¬ (FootT w10 T k ∨ FootM w10 m k)) := fun k hk => ⟨q2 k hk, fun h => by
                    have h1 := q2 k hk
                    have := P9.out.lt ((P9.out.foot q3 (fun _ _ h => h) k).1 h)
                    omega⟩
                  clear q1 q2 q3 P9 F9 Q9 N9 HIE
                  obtain ⟨A10, n10, c10, rfl⟩ := Q10.out.form
                  go_wp2_with fail
                  have Bgl : Hid (Blk (w10.alloc (.cells #[.slice A9 n9 c9, .slice A10 n10 c10] 29)) w10.heap.size [.slice A9 n9 c9, .slice A10 n10 c10] 29) := Blk.new w10 [.slice A9 n9 c9, .slice A10 n10 c10] _
                  refine (apartLines_any _ w10.heap.size _ ⟨A9, n9, c9⟩ ⟨A10, n10, c10⟩ xs xs (Bgl.out.cell 0) (Bgl.out.cell 1) (Q9'.out.mono ((Fr.refl Nix _).alloc _) (fun _ _ h => h)) (Q10.out.mono ((Fr.refl Nix _).alloc _) (fun _ _ h => h)) hxl hxl (fun b h1 h2 => by
                    have := N9'.out b h1; have := N10.out b h2; omega)).mono ?_
                  rintro e w11 ⟨rfl, h11⟩
                  have F11 : Hid (Fr Nix w w11) := (F10.out.alloc _).then h11 (fun i hi e => by
                    rcases e with e | e
                    · have := N9'.out i e; omega
                    · have := N10.out i e; omega)
                  have P11 : Hid (Pr w.heap.size w11 T m xs) := (P10.out.nix ((Fr.refl Nix w10).alloc _)).mono h11 (fun k hk e => by
                    have hk' := (P10.out.foot ((Fr.refl Nix w10).alloc _) (fun _ _ h => h) k).1 hk
                    rcases e with e | e
                    · exact (N9'.out k e).2 hk'
                    · exact (N10.out k e).2 hk')
                  clear h11 Bgl Q9' Q10 N9' N10 P10 F10
                  go_wp2_with fail
                  refine (same_any w11 T m xs P11.out.both).mono ?_
                  rintro e w12 ⟨rfl, h12⟩
                  go_wp2_with fail
                  refine (awake_any _).mono ?_
                  rintro e w13 ⟨rfl, h13⟩
                  go_wp2_with fail
                  go_ret
                  exact ⟨rfl, (F11.out.nix h12).nix h13⟩
end Go.Proofs.YtnilbpofmohfhaaGreat
