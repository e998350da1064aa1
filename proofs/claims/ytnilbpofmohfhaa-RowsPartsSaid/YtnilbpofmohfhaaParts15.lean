/- RowsParts: the walk. -/
import Derived.Test.YtnilbpofmohfhaaAwake
import Derived.Test.YtnilbpofmohfhaaDeeds
import Derived.Test.YtnilbpofmohfhaaPartsL
import Derived.Test.YtnilbpofmohfhaaBytes15
namespace Go.Proofs.Ytnilbpofmohfhaa
open Go.RowKit

/-- A table whose blocks all lie at or above B. -/
def TT (B : Nat) (w : World) (b : Nat) (xs : List Rw) : Prop := IsT w b xs ∧ ∀ k, FootT w b k → B ≤ k
theorem TT.nix {B : Nat} {w w' : World} {b : Nat} {xs : List Rw} (h : TT B w b xs) (hf : Fr Nix w w') : TT B w' b xs :=
  ⟨h.1.mono hf (fun _ _ h => h), fun k hk => h.2 k ((FootT.same h.1 hf (fun _ _ h => h)).1 hk)⟩
theorem foot_nix {w w' : World} {b : Nat} {xs : List Rw} (h : IsT w b xs) (hf : Fr Nix w w') {k : Nat} : FootT w' b k ↔ FootT w b k := FootT.same h hf (fun _ _ h => h)

theorem good_bytes {xs : List Rw} (h : Good xs) : (bytesR xs).length ≤ 100000 := by
  have each : ∀ l : List Rw, (∀ x ∈ l, rwB x = true) → (l.flatMap pairB).length ≤ 58 * l.length := by
    intro l
    induction l with
    | nil => intro _; simp
    | cons x r ih =>
      intro hl
      have ih := ih (fun y hy => hl y (by simp [hy]))
      obtain ⟨h1, h2⟩ := key_of_rw (hl x (by simp))
      have h3 : x.k.size ≤ 20 := by
        simp only [keyB, Bool.and_eq_true, decide_eq_true_eq] at h1
        exact h1.1.2
      have e1 := textB_len x.k (by omega)
      have e2 := textB_len x.v (by omega)
      have e : (pairB x).length ≤ 58 := by simp [pairB, textsB]; omega
      rw [List.flatMap_cons, List.length_append, List.length_cons]
      omega
  have h1 := each xs h.2.1
  have h2 := h.2.2
  have h3 := varB_len9 xs.length (by omega)
  unfold bytesR
  rw [List.length_append]
  omega

set_option maxRecDepth 100000 in
set_option maxHeartbeats 8000000 in
/-- The deeds done. -/
theorem rowsParts_any (w : World) (v u : Value) (lo hi : ByteArray) (ds : List Dd) (ats : List ByteArray) (hv : RdD w v ds) (hsd : SmallD ds) (hu : RdT w u ats) :
    Calls Try.prog 5 #[v, u, .agg #[.string lo, .string hi]] w fun e w' => e = .returned (.bool true) ∧ Fr Nix w w' := by
  obtain ⟨A, c, rfl⟩ : ∃ A c, v = .slice A ds.length c := by obtain ⟨_, A, c, e, _⟩ := hv; exact ⟨A, c, e⟩
  obtain ⟨B, d, rfl⟩ := hu.form
  obtain ⟨i0, hi0, hz0, hz1, hz2⟩ := info_parts infoRow
  have HV := Lib.hid hv
  have HS := Lib.hid hsd
  have HU := Lib.hid hu
  clear hv hsd hu
  go_enter Try.func5, Try.ntmps5
  go_wp2_with fail
  refine (awake_any _).mono ?_
  rintro e w1 ⟨rfl, h1⟩
  have F1 : Hid (Fr Nix w w1) := ((Fr.refl _ _).alloc _).nix h1
  have B1 : Hid (Blk w1 w.heap.size [.string lo, .string hi] 35) := (Blk.new w [.string lo, .string hi] _).mono h1 (fun h => h)
  clear h1
  go_wp2_with fail
  refine (light_any w1 _ ds (HV.out.nix F1.out) HS.out).mono ?_
  rintro e w2 ⟨rfl, h1⟩
  have F2 : Hid (Fr Nix w w2) := F1.out.nix h1
  have B2 : Hid (Blk w2 w.heap.size [.string lo, .string hi] 35) := B1.out.mono h1 (fun h => h)
  clear h1 F1 B1
  cases hlt : lightB ds with
  | false =>
    clear hlt
    go_wp2_with fail
    go_ret
    exact ⟨rfl, F2.out⟩
  | true =>
  have hli := light_rows hlt
  by_cases hat : (100 : Int) < (ats.length : Int)
  · clear hlt
    go_wp2_with fail
    go_ret
    exact ⟨rfl, F2.out⟩
  have hal : ats.length ≤ 100 := by omega
  have hdl := hli.1
  have HLI := Lib.hid hli.2
  clear hlt hli
  go_wp2_with fail
  refine (newT_any _).mono ?_
  rintro e w3 ⟨rfl, h1, h2, h3⟩
  have hbT := B2.out.lt
  have hsT := F2.out.size
  obtain ⟨T, hT⟩ : ∃ T, w2.heap.size = T := ⟨_, rfl⟩
  rw [hT] at h1 h3 hbT hsT ⊢
  have HT := Lib.hid hT
  have L0 : Hid (∃ xs, TT T w3 T xs ∧ Good xs ∧ Fr Nix w2 w3) := ⟨[], ⟨h1, h3⟩, Good.nil, h2⟩
  clear h1 h2 h3 hT
  go_wp2_with fail
  go_loopg [8] ds.length (fun gg s8 wr => ∃ k : Nat, k ≤ ds.length ∧ ds.length - k ≤ gg ∧ s8 = .int .i64 k ∧ Hid (∃ xs, TT T wr T xs ∧ Good xs ∧ Fr Nix w2 wr))
  case atStart => exact ⟨0, Nat.zero_le _, by omega, rfl, L0.out⟩
  case round =>
    clear L0
    obtain ⟨k, hk, hg, rfl, H⟩ := hrel
    obtain ⟨xs, t1, t2, t3⟩ := H.out
    have T1 := Lib.hid t1
    have T2 := Lib.hid t2
    have T3 := Lib.hid t3
    clear t1 t2 t3 H
    by_cases hlt : k < ds.length
    · have hlti : (k : Int) < (ds.length : Int) := by omega
      have hr := HV.out.nix (F2.out.nix T3.out)
      obtain ⟨_, A', c', e, hr⟩ := hr
      cases e
      rcases hr with h0 | ⟨b, off, rfl, hb, hc⟩
      · rw [h0] at hlt; cases hlt
      obtain ⟨x0, x1, x2, x3, x4⟩ := hc k hlt
      obtain ⟨_, _, _, s4, s5⟩ := HS.out ds[k] (List.getElem_mem hlt)
      have hrl := HLI.out ds[k] (List.getElem_mem hlt)
      have X2 := Lib.hid x2
      obtain ⟨Ar, cr, er⟩ : ∃ A c, ds[k].rv = .slice A ds[k].rows.length c := by obtain ⟨_, A, c, e, _⟩ := x2; exact ⟨A, c, e⟩
      rw [er] at x1 X2
      have x5 : wr.cell? ⟨b, off + k * 4 + 2 + 1, none⟩ = some (.string ds[k].hi) := x4
      clear x2 er hc
      generalize ds[k].lo = dlo at *
      generalize ds[k].hi = dhi at *
      generalize ds[k].kind = kd at *
      generalize ds[k].rows = rws at *
      have hp0 := Int.emod_nonneg kd (show (5 : Int) ≠ 0 by omega)
      have hp1 := Int.emod_lt_of_pos kd (show (0 : Int) < 5 by omega)
      have HPI := Lib.hid (pick_any wr kd 5 (by omega) (by omega) s4 s5)
      generalize kd % 5 = p at HPI hp0 hp1
      clear s4 s5
      go_wp2_with fail
      refine HPI.out.mono ?_
      rintro e w5 ⟨rfl, rfl⟩
      by_cases h4 : p = 4
      · subst h4
        go_wp2_with fail
        refine (take_any _ _ _ _ _ T1.out.1).mono ?_
        rintro e w6 ⟨v6, rfl, q1, q2, q3, q4, q5⟩
        have N : Hid (∃ xs, TT T w6 T xs ∧ Good xs ∧ Fr Nix w2 w6) := ⟨_, ⟨q3, fun i hi => T1.out.2 i (q5 i hi)⟩, (good_in T2.out dlo dhi).2, T3.out.then q4 (fun i hi e => by have := T1.out.2 i e; have := HT.out; omega)⟩
        clear q1 q2 q3 q4 q5
        go_wp2_with fail
        go_roundg (ds.length - (k + 1))
        case measure => omega
        case rel => exact ⟨k + 1, by omega, by omega, by go_num, N.out⟩
      · by_cases h3 : p = 3
        · subst h3
          go_wp2_with fail
          go_roundg (ds.length - (k + 1))
          case measure => omega
          case rel => exact ⟨k + 1, by omega, by omega, by go_num, xs, T1.out, T2.out, T3.out⟩
        · go_wp2_with fail
          refine (putT_any _ _ _ rws _ T1.out.1 X2.out (by omega)).mono ?_
          rintro e w6 ⟨rfl, q1, q2, q3⟩
          have N : Hid (∃ xs, TT T w6 T xs ∧ Good xs ∧ Fr Nix w2 w6) := by
            refine ⟨_, ⟨q1, fun i hi => ?_⟩, good_put T2.out rws, T3.out.then q2 (fun i hi e => by have := HT.out; omega)⟩
            rcases q3 i hi with h | h
            · exact T1.out.2 i h
            · have := T3.out.size; have := HT.out; omega
          clear q1 q2 q3
          go_wp2_with fail
          go_roundg (ds.length - (k + 1))
          case measure => omega
          case rel => exact ⟨k + 1, by omega, by omega, by go_num, N.out⟩
    · obtain rfl : k = ds.length := by omega
      clear hk hg hlt HV HS HLI
      go_wp2_with fail
      refine (all_any _).mono ?_
      rintro e w5 ⟨rfl, h5⟩
      go_wp2_with fail
      refine (in_any _ _ _ _ _ (T1.out.nix h5).1).mono ?_
      rintro e w6 ⟨v6, rfl, q1, q2, q3⟩
      rw [in_every T2.out] at q1
      have F6 : Hid (Fr Nix w2 w6) := (T3.out.nix h5).nix q3
      have T6 : Hid (TT T w6 T xs) := (T1.out.nix h5).nix q3
      have A6 := Lib.hid q1
      have D6 : Hid (∀ i, v6.ownBlock = some i → ¬ FootT w6 T i ∧ w2.heap.size ≤ i) := fun i hi => by
        have h1 := q2 i hi
        refine ⟨fun hf => ?_, by have := T3.out.size; have := h5.size; omega⟩
        have := (T1.out.nix h5).1.lt ((foot_nix (T1.out.nix h5).1 q3).1 hf)
        omega
      clear h5 q1 q2 q3 T1 T3
      obtain ⟨A6', c6, e6⟩ : ∃ A c, v6 = .slice A xs.length c := by obtain ⟨_, A, c, e, _⟩ := A6.out.rd; exact ⟨A, c, e⟩
      subst e6
      go_wp2_with fail
      refine (all_any _).mono ?_
      rintro e w7 ⟨rfl, h7⟩
      go_wp2_with fail
      refine (cut_any w7 _ _ _ ats ((HU.out.nix F2.out).nix (F6.out.nix h7)) (by omega)).mono ?_
      rintro e w8 ⟨v8, rfl, q1, q2, q3⟩
      have F8 : Hid (Fr Nix w6 w8) := h7.nix q3
      have hce := cut_every T2.out ats
      have CE := Lib.hid hce
      have C8 := Lib.hid q1.rd
      clear h7 q1 q2 q3 hce
      generalize cutB ByteArray.empty ByteArray.empty ats = cs at *
      obtain ⟨A8, c8, e8⟩ : ∃ A c, v8 = .slice A cs.length c := by obtain ⟨_, A, c, e, _⟩ := C8.out; exact ⟨A, c, e⟩
      subst e8
      have T8 := Lib.hid (T6.out.nix F8.out)
      have hcl := C8.out.1
      have L8 : Hid (∃ acc, OwnR w8 (.slice none 0 0) acc ∧ New w8 (.slice none 0 0) ∧ acc = (cs.take 0).flatMap (fun s => inR s.k s.v xs) ∧ Fr Nix w8 w8) := ⟨[], World.ownsRow_nil _ _ _ _, (fun k hk => by cases hk), by simp, Fr.refl _ _⟩
      go_wp2_with fail
      go_loopg [10, 12] cs.length (fun gg s10 s12 wr => ∃ (k : Nat) (A : Option Addr) (L c : Nat), k ≤ cs.length ∧ cs.length - k ≤ gg ∧ s12 = .int .i64 k ∧ s10 = .slice A L c ∧
        Hid (∃ acc, OwnR wr (.slice A L c) acc ∧ New w8 (.slice A L c) ∧ acc = (cs.take k).flatMap (fun s => inR s.k s.v xs) ∧ Fr Nix w8 wr))
      case atStart => exact ⟨0, none, 0, 0, Nat.zero_le _, by omega, rfl, rfl, L8.out⟩
      case round =>
        clear L8
        obtain ⟨k, A9, L9, c9, hk, hg, rfl, rfl, H⟩ := hrel
        obtain ⟨acc, p1, p2, p3, p4⟩ := H.out
        have P1 := Lib.hid p1
        have P2 := Lib.hid p2
        have P3 := Lib.hid p3
        have P4 := Lib.hid p4
        clear p1 p2 p3 p4 H
        by_cases hlt : k < cs.length
        · have hlti : (k : Int) < (cs.length : Int) := by omega
          have hr := C8.out.nix P4.out
          obtain ⟨_, A', c', e, hr⟩ := hr
          cases e
          rcases hr with h0 | ⟨b, off, rfl, hb, hc⟩
          · rw [h0] at hlt; cases hlt
          have x0 := (hc k hlt).1
          have x1 := (hc k hlt).2
          have P5 : Hid ((cs.take (k + 1)).flatMap (fun s => inR s.k s.v xs) = acc ++ inR cs[k].k cs[k].v xs) := by
            show _ = _
            rw [flat_succ _ cs k hlt, ← P3.out]
          have hln : acc.length + (inR cs[k].k cs[k].v xs).length ≤ 400 := by
            have h1 := flat_le (fun s : Rw => inR s.k s.v xs) cs (k + 1)
            rw [P5.out, CE.out, List.length_append] at h1
            have := T2.out.2.2
            omega
          clear hc
          generalize cs[k] = s at x0 x1 P5 hln
          go_wp2_with fail
          refine (in_any _ _ _ _ _ (T8.out.nix P4.out).1).mono ?_
          rintro e w9 ⟨v9, rfl, q1, q2, q3⟩
          have Q1 := Lib.hid q1
          have Q3 := Lib.hid q3
          clear q1 q2 q3
          go_wp2_with (at_builtin; refine wp_append rfl _ _ 22 rfl 32 i0 _ 2 32 Try.underlying22 hi0 hz0 hz1 hz2 rfl (by decide) _ acc.length (cellsR acc) rfl ?c1 _ rfl (inR s.k s.v xs).length (cellsR (inR s.k s.v xs)) ?c2 ?c3 ?c4 ?c5)
          case c1 => exact P1.out.mono Q3.out (fun _ _ h => h)
          case c2 => exact Q1.out.rd.src
          case c3 => simp only [maxLen]; omega
          case c4 => omega
          case c5 =>
            intro v' w' ho' hf hat
            have N : Hid (∃ A L c, v' = .slice A L c ∧ ∃ acc, OwnR w' v' acc ∧ New w8 v' ∧ acc = (cs.take (k + 1)).flatMap (fun s => inR s.k s.v xs) ∧ Fr Nix w8 w') := by
              have ho2 : OwnR w' v' (acc ++ inR s.k s.v xs) := by
                show w'.ownsRow _ _ _ _ _ _
                rw [List.length_append, cellsR_append]
                exact ho'
              obtain ⟨A, L, c, e⟩ := ho2.form
              refine ⟨A, L, c, e, _, ho2, fun i hi' => ?_, P5.out.symm, (P4.out.nix Q3.out).then hf (fun i hi' e => by have := P2.out i e; omega)⟩
              rcases hat with e | e
              · rw [e] at hi'; exact P2.out i hi'
              · rw [e] at hi'
                cases hi'
                exact (P4.out.nix Q3.out).size
            clear ho' hf hat
            obtain ⟨A10, L10, c10, rfl, N⟩ := N.out
            have N := Lib.hid N
            go_wp2_with fail
            go_roundg (cs.length - (k + 1))
            case measure => omega
            case rel => exact ⟨k + 1, A10, L10, c10, by omega, by omega, by go_num, rfl, N.out⟩
        · obtain rfl : k = cs.length := by omega
          have P5 : Hid (acc = xs) := by
            show _ = _
            rw [P3.out, List.take_length, CE.out]
          have hP5 := P5.out
          subst hP5
          have AL : Hid (OwnR wr (.slice A6' acc.length c6) acc) := (A6.out.mono F8.out (fun _ _ h => h)).mono P4.out (fun _ _ h => h)
          have TW : Hid (TT T wr T acc) := T8.out.nix P4.out
          have DW : Hid (∀ i, (Value.slice A6' acc.length c6).ownBlock = some i → ¬ FootT wr T i) := fun i hi hf => (D6.out i hi).1 ((foot_nix T6.out.1 F8.out).1 ((foot_nix T8.out.1 P4.out).1 hf))
          have FW : Hid (Fr Nix w2 wr) := (F6.out.nix F8.out).nix P4.out
          have BW : Hid (Blk wr w.heap.size [.string lo, .string hi] 35) := B2.out.mono FW.out (fun h => h)
          clear hk hg hlt P2 P3 P4 P5 C8 CE T8 F8 A6 D6 T6 F6 hcl
          go_wp2_with fail
          refine (sameLines_any wr _ _ acc acc P1.out.rd AL.out.rd).mono ?_
          rintro e w9 ⟨rfl, h9⟩
          rw [same_self]
          have TW9 := Lib.hid (TW.out.nix h9)
          have H9 := Lib.hid h9
          clear h9
          go_wp2_with fail
          refine (many_any _ _ _ TW9.out.1).mono ?_
          rintro e w10 ⟨rfl, rfl⟩
          have b0 : w9.cell? ⟨w.heap.size, 0, none⟩ = some (.string lo) := (BW.out.mono H9.out (fun h => h)).cell 0
          have b1 : w9.cell? ⟨w.heap.size, 1, none⟩ = some (.string hi) := (BW.out.mono H9.out (fun h => h)).cell 1
          go_wp2_with fail
          refine (in_any _ _ _ lo hi TW9.out.1).mono ?_
          rintro e w10 ⟨v13, rfl, q1, q2, q3⟩
          have T10 := Lib.hid (TW9.out.nix q3)
          have I10 := Lib.hid q1
          have D10 : Hid (∀ i, v13.ownBlock = some i → ¬ FootT w10 T i) := fun i hi hf => by
            have h1 := q2 i hi
            have := TW9.out.1.lt ((foot_nix TW9.out.1 q3).1 hf)
            omega
          have A10 : Hid (OwnR w10 (.slice A6' acc.length c6) acc) := (AL.out.mono H9.out (fun _ _ h => h)).mono q3 (fun _ _ h => h)
          have D10' : Hid (∀ i, (Value.slice A6' acc.length c6).ownBlock = some i → ¬ FootT w10 T i) := fun i hi hf => DW.out i hi ((foot_nix TW.out.1 H9.out).1 ((foot_nix TW9.out.1 q3).1 hf))
          have F10 : Hid (Fr Nix w2 w10) := (FW.out.nix H9.out).nix q3
          have PL := parts_law T2.out lo hi
          have GI := Lib.hid (good_in T2.out lo hi)
          clear q1 q2 q3 H9 TW9 TW AL DW FW BW P1 b0 b1
          have TK := Lib.hid (take_any w10 T acc lo hi T10.out.1)
          generalize inR lo hi acc = ins at *
          generalize outR lo hi acc = ys at *
          have c0 : w10.cell? ⟨w.heap.size, 0, none⟩ = some (.string lo) := (B2.out.mono F10.out (fun h => h)).cell 0
          have c1 : w10.cell? ⟨w.heap.size, 1, none⟩ = some (.string hi) := (B2.out.mono F10.out (fun h => h)).cell 1
          obtain ⟨A13, c13, e13⟩ : ∃ A c, v13 = .slice A ins.length c := by obtain ⟨_, A, c, e, _⟩ := I10.out.rd; exact ⟨A, c, e⟩
          subst e13
          obtain ⟨pl1, pl2, pl3, pl4, pl5⟩ := PL
          have PL1 := Lib.hid pl1
          have PL3 := Lib.hid pl3
          have PL4 := Lib.hid (And.intro pl4 pl5)
          clear pl1 pl3 pl4 pl5
          go_wp2_with fail
          refine TK.out.mono ?_
          rintro e w11 ⟨v14, rfl, q1, q2, q3, q4, q5⟩
          have I11 := Lib.hid q1
          have T11 : Hid (TT T w11 T ys) := ⟨q3, fun i hi => T10.out.2 i (q5 i hi)⟩
          have J11 : Hid (OwnR w11 (.slice A13 ins.length c13) ins) := I10.out.mono q4 D10.out
          have A11 : Hid (OwnR w11 (.slice A6' acc.length c6) acc) := A10.out.mono q4 D10'.out
          have D11 : Hid (∀ i, v14.ownBlock = some i → ¬ FootT w11 T i) := fun i hi hf => by
            have h1 := q2 i hi
            have := T10.out.1.lt (q5 i hf)
            omega
          have D11' : Hid (∀ i, (Value.slice A6' acc.length c6).ownBlock = some i → ¬ FootT w11 T i) := fun i hi hf => D10'.out i hi (q5 i hf)
          have F11 : Hid (Fr Nix w2 w11) := F10.out.then q4 (fun i hi e => by have := T10.out.2 i e; have := HT.out; omega)
          clear q1 q2 q3 q4 q5 I10 D10 A10 D10' F10 T10 TK c0 c1
          obtain ⟨A14, c14, e14⟩ : ∃ A c, v14 = .slice A ins.length c := by obtain ⟨_, A, c, e, _⟩ := I11.out.rd; exact ⟨A, c, e⟩
          subst e14
          go_wp2_with fail
          refine (sameLines_any w11 _ _ ins ins J11.out.rd I11.out.rd).mono ?_
          rintro e w12 ⟨rfl, h12⟩
          rw [same_self]
          have F12 := Lib.hid h12
          have T12 := Lib.hid (T11.out.nix h12)
          have c0 : w12.cell? ⟨w.heap.size, 0, none⟩ = some (.string lo) := ((B2.out.mono F11.out (fun h => h)).mono h12 (fun h => h)).cell 0
          have c1 : w12.cell? ⟨w.heap.size, 1, none⟩ = some (.string hi) := ((B2.out.mono F11.out (fun h => h)).mono h12 (fun h => h)).cell 1
          clear h12 J11
          go_wp2_with fail
          refine (in_any _ _ _ lo hi T12.out.1).mono ?_
          rintro e w13 ⟨v15, rfl, q1, q2, q3⟩
          rw [PL1.out] at q1
          obtain ⟨A15, c15, e15⟩ : ∃ A c, v15 = .slice A 0 c := by obtain ⟨_, A, c, e, _⟩ := q1.rd; exact ⟨A, c, e⟩
          subst e15
          have F13 : Hid (Fr Nix w11 w13) := F12.out.nix q3
          have T13 := Lib.hid (T12.out.nix q3)
          clear q1 q2 q3 c0 c1 F12 T12
          go_wp2_with fail
          refine (many_any _ _ _ T13.out.1).mono ?_
          rintro e w14 ⟨rfl, rfl⟩
          have hsub : (acc.length : Int) - (ins.length : Int) = (ys.length : Int) := by omega
          have hwr : IntKind.i64.wrap (ys.length : Int) = (ys.length : Int) := IntWalk.i64_in _ (by have := T2.out.2.2; omega)
          have IW : Hid (OwnR w13 (.slice A14 ins.length c14) ins) := I11.out.mono F13.out (fun _ _ h => h)
          have AW : Hid (OwnR w13 (.slice A6' acc.length c6) acc) := A11.out.mono F13.out (fun _ _ h => h)
          have DI : Hid (∀ i, (Value.slice A14 ins.length c14).ownBlock = some i → ¬ FootT w13 T i) := fun i hi hf => D11.out i hi ((foot_nix T11.out.1 F13.out).1 hf)
          have DA : Hid (∀ i, (Value.slice A6' acc.length c6).ownBlock = some i → ¬ FootT w13 T i) := fun i hi hf => D11'.out i hi ((foot_nix T11.out.1 F13.out).1 hf)
          have FX : Hid (Fr Nix w2 w13) := F11.out.nix F13.out
          clear I11 A11 D11 D11' F11 F13 T11
          go_wp2_with fail
          go_loopg [15] acc.length (fun gg s15 wr => ∃ k : Nat, k ≤ acc.length ∧ acc.length - k ≤ gg ∧ s15 = .int .i64 k ∧ Hid (Fr Nix w13 wr))
          case atStart => exact ⟨0, Nat.zero_le _, by omega, rfl, Fr.refl _ _⟩
          case round =>
            obtain ⟨k, hk, hg, rfl, H⟩ := hrel
            by_cases hlt : k < acc.length
            · have hlti : (k : Int) < (acc.length : Int) := by omega
              have hr := AW.out.rd.nix H.out
              obtain ⟨_, A', c', e, hr⟩ := hr
              cases e
              rcases hr with h0 | ⟨b, off, rfl, hb, hc⟩
              · rw [h0] at hlt; cases hlt
              have x0 := (hc k hlt).1
              have x1 := (hc k hlt).2
              have hx := PL3.out acc[k] (List.getElem_mem hlt)
              clear hc
              generalize acc[k] = x at x0 x1 hx
              obtain ⟨hx1, hx2⟩ := hx
              have HG := Lib.hid (get_any wr T ys x.k (T13.out.nix H.out).1)
              have HH : ∀ W, Hid (Calls Try.prog 30 #[.agg #[.string lo, .string hi], .string x.k] W fun e w' => e = .returned (.bool (hasB lo hi x.k)) ∧ Fr Nix W w') := fun W => has_any lo hi x.k W
              rw [hx1] at HG
              clear hx1
              cases hq : hasB lo hi x.k with
              | true =>
                rw [hq] at HG HH
                clear hx2 hq
                generalize getR x.k ys = gv at HG
                go_wp2_with fail
                refine HG.out.mono ?_
                rintro e w15 ⟨rfl, h15⟩
                have H15 : Hid (Fr Nix wr w15) := h15
                have y0 := Gt.cell (h15.cell' x0)
                have y1 := Gt.cell (h15.cell' x1)
                have z0 := Gt.cell ((B2.out.mono (FX.out.nix (H.out.nix h15)) (fun h => h)).cell 0)
                have z1 := Gt.cell ((B2.out.mono (FX.out.nix (H.out.nix h15)) (fun h => h)).cell 1)
                clear h15 x0 x1 HG
                go_wp2_with fail
                refine wp_region_gt (by kernel_rfl) (by kernel_rfl) ?_
                repeat (go_big_quiet_step ((go_at_call 30; exact (HH _).out.gt)))
                refine wpQuiet_nil ?_
                rintro _ ⟨⟨w9, h9⟩, rfl⟩
                go_wp2_with fail
                go_roundg (acc.length - (k + 1))
                case measure => omega
                case rel => exact ⟨k + 1, by omega, by omega, by go_num, H.out.nix (H15.out.nix h9)⟩
              | false =>
                rw [hq] at HG HH
                rw [hx2 hq] at HG
                clear hx2 hq
                go_wp2_with fail
                refine HG.out.mono ?_
                rintro e w15 ⟨rfl, h15⟩
                have H15 : Hid (Fr Nix wr w15) := h15
                have y0 := Gt.cell (h15.cell' x0)
                have y1 := Gt.cell (h15.cell' x1)
                have z0 := Gt.cell ((B2.out.mono (FX.out.nix (H.out.nix h15)) (fun h => h)).cell 0)
                have z1 := Gt.cell ((B2.out.mono (FX.out.nix (H.out.nix h15)) (fun h => h)).cell 1)
                clear h15 x0 x1 HG
                go_wp2_with fail
                refine wp_region_gt (by kernel_rfl) (by kernel_rfl) ?_
                repeat (go_big_quiet_step ((go_at_call 30; exact (HH _).out.gt)))
                refine wpQuiet_nil ?_
                rintro _ ⟨⟨w9, h9⟩, rfl⟩
                go_wp2_with fail
                go_roundg (acc.length - (k + 1))
                case measure => omega
                case rel => exact ⟨k + 1, by omega, by omega, by go_num, H.out.nix (H15.out.nix h9)⟩
            · obtain rfl : k = acc.length := by omega
              have FY : Hid (Fr Nix w13 wr) := H.out
              have hbl := good_bytes GI.out.1
              have hil : ins.length ≤ 400 := GI.out.1.2.2
              have RB : Hid (readRows (bytesR ins) = (some ins, false, [])) := by
                have := read_back GI.out.1 []
                rw [List.append_nil] at this
                exact this
              clear H hk hg hlt hsub hwr PL3
              go_wp2_with fail
              refine (newW_any _).mono ?_
              rintro e w15 ⟨rfl, n1, n2, n3⟩
              have N1 := Lib.hid n1
              have N2 := Lib.hid n2
              have N3 := Lib.hid n3
              clear n1 n2 n3
              have hvw : ∀ k, (Value.slice A14 ins.length c14).ownBlock = some k → ¬ FootW w15 wr.heap.size k := fun k hk hf => by
                have h1 := own_lt IW.out k hk
                have := N3.out k hf
                have := FY.out.size
                omega
              have HWR := Lib.hid (rowsWrite_any w15 wr.heap.size false [] _ ins N1.out ((IW.out.mono FY.out (fun _ _ h => h)).mono N2.out (fun _ _ h => h)).rd hvw (by simpa using (by omega : (bytesR ins).length ≤ 1000000000)) (by omega))
              clear hvw
              go_wp2_with fail
              refine HWR.out.mono ?_
              rintro e w16 ⟨rfl, s1, s2, _⟩
              have S1 := Lib.hid s1
              have F16 : Hid (Fr Nix w13 w16) := (FY.out.nix N2.out).then s2 (fun i hi h => by have := N3.out i h; have := FY.out.size; omega)
              clear s1 s2 HWR N1 N2 N3
              go_wp2_with fail
              refine (doneW_any w16 _ false _ S1.out (by simpa using (by omega : (bytesR ins).length ≤ 1000000000))).mono ?_
              rintro e w17 ⟨v17, rfl, d1, d2, d3⟩
              simp only [Bool.false_eq_true, if_false, List.nil_append] at d1
              simp only [Bool.false_eq_true, if_false]
              have D1 := Lib.hid d1.rd
              have F17 : Hid (Fr Nix w13 w17) := F16.out.nix d3
              clear d1 d2 d3 S1 F16
              obtain ⟨A17, n17, c17, e17⟩ : ∃ A n c, v17 = .slice A n c := D1.out.form'
              subst e17
              go_wp2_with fail
              refine (newRd_any w17 _ _ D1.out (by omega)).mono ?_
              rintro e w18 ⟨b18, rfl, r1, r2, r3⟩
              have R1 := Lib.hid r1
              have R3 := Lib.hid r3
              have F18 := Lib.hid r2
              clear r1 r2 r3
              go_wp2_with fail
              refine (rowsRead_any w18 b18 _ R1.out (by omega)).mono ?_
              rintro e w19 ⟨v19, rfl, q1, q2, q3⟩
              rw [RB.out] at q1 ⊢
              have F19 : Hid (Fr Nix w13 w19) := (F17.out.nix F18.out).then q3.2.1 (fun i hi e => by
                have h1 := R3.out b18 (.inl rfl)
                have := F17.out.size
                omega)
              have Q1 : Hid (OwnR w19 v19 ins) := q1
              clear q1 q2 q3 R1 R3 F18 F17 D1 RB
              obtain ⟨A19, c19, e19⟩ : ∃ A c, v19 = .slice A ins.length c := by obtain ⟨_, A, c, e, _⟩ := Q1.out.rd; exact ⟨A, c, e⟩
              subst e19
              go_wp2_with fail
              refine (sameLines_any w19 _ _ ins ins Q1.out.rd (IW.out.mono F19.out (fun _ _ h => h)).rd).mono ?_
              rintro e w20 ⟨rfl, h20⟩
              rw [same_self]
              have F20 : Hid (Fr Nix w13 w20) := F19.out.nix h20
              have Q20 : Hid (OwnR w20 (.slice A19 ins.length c19) ins) := Q1.out.mono h20 (fun _ _ h => h)
              clear h20 Q1 F19
              have HP := Lib.hid (putT_any w20 T ys ins _ (T13.out.nix F20.out).1 Q20.out.rd (by omega))
              rw [PL4.out.1, PL4.out.2] at HP
              go_wp2_with fail
              refine HP.out.mono ?_
              rintro e w21 ⟨rfl, q1, q2, q3⟩
              have A21 : Hid (OwnR w21 (.slice A6' acc.length c6) acc) := (AW.out.mono F20.out (fun _ _ h => h)).mono q2 (fun i hi e => DA.out i hi (.inl e))
              have T21 := Lib.hid q1
              have F21 : Hid (Fr Nix w2 w21) := (FX.out.nix F20.out).then q2 (fun i hi e => by have := HT.out; omega)
              clear q1 q2 q3 HP Q20
              go_wp2_with fail
              refine (all_any _).mono ?_
              rintro e w22 ⟨rfl, h22⟩
              go_wp2_with fail
              refine (in_any _ _ _ _ _ (T21.out.mono h22 (fun _ _ h => h))).mono ?_
              rintro e w23 ⟨v23, rfl, q1, q2, q3⟩
              rw [in_every T2.out] at q1
              have F23 : Hid (Fr Nix w21 w23) := h22.nix q3
              have Q23 := Lib.hid q1
              clear h22 q1 q2 q3
              go_wp2_with fail
              refine (sameLines_any w23 _ _ acc acc Q23.out.rd (A21.out.mono F23.out (fun _ _ h => h)).rd).mono ?_
              rintro e w24 ⟨rfl, h24⟩
              rw [same_self]
              go_wp2_with fail
              go_ret
              exact ⟨rfl, F2.out.nix ((F21.out.nix F23.out).nix h24)⟩
end Go.Proofs.Ytnilbpofmohfhaa
