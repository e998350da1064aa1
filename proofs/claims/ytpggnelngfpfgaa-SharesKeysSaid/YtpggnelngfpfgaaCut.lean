/- span.Cut tells the span's parts, cut at the keys, rising. -/
import Derived.Test.YtpggnelngfpfgaaSort
import Derived.Test.YtpggnelngfpfgaaSpanH
import Derived.Test.YtpggnelngfpfgaaRw
namespace Go.Proofs.Ytpggnelngfpfgaa
open Go.RowKit

def cutL (lo hi : ByteArray) : List ByteArray → List Rw
  | [] => [⟨lo, hi⟩]
  | k :: r => if hasB lo hi k then (if k = lo then cutL lo hi r else ⟨lo, k⟩ :: cutL k hi r) else cutL lo hi r
def cutB (lo hi : ByteArray) (ats : List ByteArray) : List Rw := if rightB lo hi then cutL lo hi (keysU ats) else []

set_option maxRecDepth 100000 in
theorem values_any (w : World) (A : Option Addr) (n c : Nat) : Calls Try.prog 86 #[.slice A n c] w fun e w' => e = .returned (.func (.func 102) #[] #[.pointer (some ⟨w.heap.size, 0, none⟩)]) ∧ w' = w.alloc (.cells #[.slice A n c] 37) := by
  go_enter Try.func86, Try.ntmps86
  go_wp2
  go_ret
  exact ⟨rfl, rfl⟩

set_option maxRecDepth 100000 in
set_option maxHeartbeats 4000000 in
theorem cut_any (w : World) (lo hi : ByteArray) (v : Value) (ats : List ByteArray) (hv : RdT w v ats) (hl : ats.length ≤ 1000000) :
    Calls Try.prog 72 #[.agg #[.string lo, .string hi], v] w fun e w' => ∃ v', e = .returned v' ∧ OwnS w' v' (cutB lo hi ats) ∧ New w v' ∧ Fr Nix w w' := by
  obtain ⟨i0, hi0, hz0, hz1, hz2⟩ := info_parts infoSpan
  obtain ⟨A, c, rfl⟩ := hv.form
  have HV := Lib.hid hv
  clear hv
  go_enter Try.func72, Try.ntmps72
  go_wp2_with fail
  refine (right_any _ _ _).mono ?_
  rintro e w1 ⟨rfl, h1⟩
  have F1 : Hid (Fr Nix w w1) := ((Fr.refl _ _).alloc _).nix h1
  have B1 : Hid (Blk w1 w.heap.size [.string lo, .string hi] 29) := (Blk.new w [.string lo, .string hi] _).mono h1 (fun h => h)
  clear h1
  cases hr : rightB lo hi with
  | false =>
    have HR : Hid (cutB lo hi ats = []) := by show _ = _; unfold cutB; rw [hr]; rfl
    clear hr
    go_wp2_with fail
    go_ret
    rw [HR.out]
    exact ⟨_, rfl, World.ownsRow_nil _ _ _ _, (fun k hk => by cases hk), F1.out⟩
  | true =>
    have HR : Hid (cutB lo hi ats = cutL lo hi (keysU ats)) := by show _ = _; unfold cutB; rw [hr]; rfl
    clear hr
    go_wp2_with fail
    refine (values_any _ _ _ _).mono ?_
    rintro e w2 ⟨rfl, hw2⟩
    have F2 : Hid (Fr Nix w1 w2) := by show Fr Nix w1 w2; rw [hw2]; exact (Fr.refl _ _).alloc _
    have C2 : w2.cell? ⟨w1.heap.size, 0, none⟩ = some (.slice A ats.length c) := by rw [hw2]; exact (Blk.new w1 [.slice A ats.length c] _).cell 0
    clear hw2
    have HS := Lib.hid (sorted_any w2 w1.heap.size _ ats (by omega) C2 ((HV.out.nix F1.out).nix F2.out))
    clear C2
    go_wp2_with fail
    refine HS.out.mono ?_
    rintro e w3 ⟨v3, rfl, h1, h2, h3⟩
    have F3 : Hid (Fr Nix w1 w3) := F2.out.nix h3
    have N3 : Hid (New w1 v3) := fun k hk => Nat.le_trans F2.out.size (h2 k hk)
    have O3 := Lib.hid h1
    clear h1 h2 h3 HS F2
    go_wp2_with fail
    refine (compact_any w3 v3 ats O3.out).mono ?_
    rintro e w4 ⟨v4, rfl, h1, h2, h3⟩
    have F4 : Hid (Fr Nix w1 w4) := F3.out.then h3 (fun i hi h => by have := N3.out i h; omega)
    have O4 := Lib.hid h1.rd
    have N4 : Hid (New w1 v4) := fun i hi => N3.out i (by rw [← h2]; exact hi)
    have hbl := B1.out.lt
    have B4 : Hid (Blk w4 w.heap.size [.string lo, .string hi] 29) := B1.out.mono F4.out (fun h => h)
    have hK := keysU_length ats
    clear h1 h2 h3 O3 N3 F3 B1
    obtain ⟨A4, c4, e4⟩ := O4.out.form
    subst e4
    generalize keysU ats = ks at *
    have L4 : Hid (∃ acc, OwnS w4 (.slice none 0 0) acc ∧ New w4 (.slice none 0 0) ∧ Blk w4 w.heap.size [.string lo, .string hi] 29 ∧ Fr (fun i => i = w.heap.size) w4 w4 ∧ acc.length ≤ 0 ∧ cutB lo hi ats = acc ++ cutL lo hi (ks.drop 0)) :=
      ⟨[], World.ownsRow_nil _ _ _ _, (fun k hk => by cases hk), B4.out, Fr.refl _ _, by simp, by rw [HR.out]; rfl⟩
    have FB : Hid (Fr Nix w w4) := F1.out.nix F4.out
    have F4s : Hid (w.heap.size < w4.heap.size) := by have := F4.out.size; show _ < _; omega
    clear HR B4 F4 F1
    go_wp2_with fail
    go_loopg [5, 16] ks.length (fun gg s5 s16 wr => ∃ (k : Nat) (A : Option Addr) (L cap : Nat) (lo' : ByteArray), k ≤ ks.length ∧ ks.length - k ≤ gg ∧ s16 = .int .i64 k ∧ s5 = .slice A L cap ∧
      Hid (∃ acc, OwnS wr (.slice A L cap) acc ∧ New w4 (.slice A L cap) ∧ Blk wr w.heap.size [.string lo', .string hi] 29 ∧ Fr (fun i => i = w.heap.size) w4 wr ∧ acc.length ≤ k ∧ cutB lo hi ats = acc ++ cutL lo' hi (ks.drop k)))
    case atStart => exact ⟨0, none, 0, 0, lo, Nat.zero_le _, by omega, rfl, rfl, L4.out⟩
    case round =>
      clear L4
      obtain ⟨k, A5, L5, c5, lo', hk, hg, rfl, rfl, H⟩ := hrel
      obtain ⟨acc, q1, q2, q3, q4, q5, q6⟩ := H.out
      have Q1 := Lib.hid q1
      have Q2 := Lib.hid q2
      have Q3 := Lib.hid q3
      have Q4 := Lib.hid q4
      have Q5 := Lib.hid q5
      have Q6 := Lib.hid q6
      have hbr := Q3.out.lt
      clear q1 q2 q3 q4 q5 q6 H
      have b0 : wr.cell? ⟨w.heap.size, 0, none⟩ = some (.string lo') := Q3.out.cell 0
      have b1 : wr.cell? ⟨w.heap.size, 1, none⟩ = some (.string hi) := Q3.out.cell 1
      by_cases hlt : k < ks.length
      · have hlti : (k : Int) < (ks.length : Int) := by omega
        have hdr : Hid (ks.drop k = ks[k] :: ks.drop (k + 1)) := List.drop_eq_getElem_cons hlt
        obtain ⟨_, A', c', e, hr4⟩ := O4.out.mono Q4.out (fun i hi e => by have := N4.out i hi; omega)
        cases e
        rcases hr4 with h0 | ⟨g4, off4, rfl, hg4, hc4⟩
        · rw [h0] at hlt; cases hlt
        have x0 := hc4 k hlt
        clear hc4
        generalize ks[k] = kk at x0 hdr
        cases hh : hasB lo' hi kk with
        | false =>
          have HH := Lib.hid hh
          have HC : Hid (cutL lo' hi (ks.drop k) = cutL lo' hi (ks.drop (k + 1))) := by
            show _ = _
            rw [hdr.out, cutL, hh]; rfl
          clear hh
          go_wp2_with fail
          refine (has_any _ _ _ _).mono ?_
          rintro e w5 ⟨rfl, h5⟩
          rw [HH.out]
          have N : Hid (OwnS w5 (.slice A5 L5 c5) acc ∧ Blk w5 w.heap.size [.string lo', .string hi] 29 ∧ Fr (fun i => i = w.heap.size) w4 w5) := ⟨Q1.out.mono h5 (fun _ _ h => h), Q3.out.mono h5 (fun h => h), Q4.out.nix h5⟩
          clear h5
          go_wp2_with fail
          go_roundg (ks.length - (k + 1))
          case measure => omega
          case rel => exact ⟨k + 1, A5, L5, c5, lo', by omega, by omega, by go_num, rfl, acc, N.out.1, Q2.out, N.out.2.1, N.out.2.2, by have := Q5.out; omega, by rw [Q6.out, HC.out]⟩
        | true =>
          have HH := Lib.hid hh
          have hq := toList_inj kk lo'
          by_cases he : kk = lo'
          · have HC : Hid (cutL lo' hi (ks.drop k) = cutL lo' hi (ks.drop (k + 1))) := by
              show _ = _
              rw [hdr.out, cutL, hh, he]; simp
            rw [decide_eq_true he] at hq
            clear hh he
            go_wp2_with fail
            refine (has_any _ _ _ _).mono ?_
            rintro e w5 ⟨rfl, h5⟩
            rw [HH.out]
            have b2 : w5.cell? ⟨w.heap.size, 0, none⟩ = some (.string lo') := h5.cell' b0
            have N : Hid (OwnS w5 (.slice A5 L5 c5) acc ∧ Blk w5 w.heap.size [.string lo', .string hi] 29 ∧ Fr (fun i => i = w.heap.size) w4 w5) := ⟨Q1.out.mono h5 (fun _ _ h => h), Q3.out.mono h5 (fun h => h), Q4.out.nix h5⟩
            clear h5
            go_wp2_with fail
            go_roundg (ks.length - (k + 1))
            case measure => omega
            case rel => exact ⟨k + 1, A5, L5, c5, lo', by omega, by omega, by go_num, rfl, acc, N.out.1, Q2.out, N.out.2.1, N.out.2.2, by have := Q5.out; omega, by rw [Q6.out, HC.out]⟩
          · have HC : Hid (cutL lo' hi (ks.drop k) = ⟨lo', kk⟩ :: cutL kk hi (ks.drop (k + 1))) := by
              show _ = _
              rw [hdr.out, cutL, hh, if_pos rfl, if_neg he]
            rw [decide_eq_false he] at hq
            clear hh he
            go_wp2_with fail
            refine (has_any _ _ _ _).mono ?_
            rintro e w5 ⟨rfl, h5⟩
            rw [HH.out]
            have b2 : w5.cell? ⟨w.heap.size, 0, none⟩ = some (.string lo') := h5.cell' b0
            have N : Hid (OwnS w5 (.slice A5 L5 c5) acc ∧ Blk w5 w.heap.size [.string lo', .string hi] 29 ∧ Fr (fun i => i = w.heap.size) w4 w5) := ⟨Q1.out.mono h5 (fun _ _ h => h), Q3.out.mono h5 (fun h => h), Q4.out.nix h5⟩
            clear h5
            have hL : Hid (L5 = acc.length) := by obtain ⟨_, A', c', e, _⟩ := N.out.1.rd; cases e; rfl
            have RX : Hid (RdR (w5.alloc (.cells #[.string lo', .string kk] 29)) (.slice (some ⟨w5.heap.size, 0, none⟩) 1 1) [⟨lo', kk⟩]) := rdR_blk (xs := [⟨lo', kk⟩]) (Blk.new w5 [.string lo', .string kk] _) (by simp)
            go_wp2_with (at_builtin; refine wp_append rfl _ _ 76 rfl 29 i0 _ 2 32 Try.underlying76 hi0 hz0 hz1 hz2 rfl (by decide) _ acc.length (cellsR acc) rfl ?c1 _ rfl 1 (cellsR [⟨lo', kk⟩]) ?c2 ?c3 ?c4 ?c5)
            case c1 => exact N.out.1.mono ((Fr.refl Nix _).alloc _) (fun _ _ h => h)
            case c2 => exact RX.out.src
            case c3 => have := Q5.out; simp only [maxLen]; omega
            case c4 => have := Q5.out; omega
            case c5 =>
              intro v' w' ho' hf hat
              have NO : Hid (OwnS w' v' (acc ++ [⟨lo', kk⟩])) := by
                show w'.ownsRow _ _ _ _ _ _
                rw [List.length_append, cellsR_append]
                exact ho'
              have NN : Hid (New w4 v') := fun i hi' => by
                have h2 := N.out.2.2.size
                rcases hat with e | e
                · rw [e] at hi'; exact Q2.out i hi'
                · rw [e] at hi'
                  cases hi'
                  simp
                  omega
              have hbx : w.heap.size < w4.heap.size := by have := F4s.out; omega
              have FX : Hid (Fr (Foot (.slice A5 L5 c5)) w5 w') := ((Fr.refl _ w5).alloc _).trans hf
              have BX : Hid (Blk w' w.heap.size [.string lo', .string hi] 29) := N.out.2.1.mono FX.out (fun e => by have := Q2.out _ e; omega)
              have b3 : w'.cell? ⟨w.heap.size, 0, none⟩ = some (.string lo') := BX.out.cell 0
              have b4 : w'.frozen? ⟨w.heap.size, 0, none⟩ = false := BX.out.frozen 0
              have FW : Hid (Fr (fun i => i = w.heap.size) w4 w') := N.out.2.2.then FX.out (fun i hi' e => by have := Q2.out i e; omega)
              clear ho' hf hat
              obtain ⟨A6, L6, c6, e6⟩ := NO.out.form
              subst e6
              go_wp2_with fail
              go_roundg (ks.length - (k + 1))
              case measure => omega
              case rel =>
                refine ⟨k + 1, A6, L6, c6, kk, by omega, by omega, by go_num, rfl, _, NO.out.mono ((Fr.refl (fun i => i = w.heap.size) w').setCell (p := ⟨w.heap.size, 0, none⟩) (.inr rfl) _) (fun i hi' e => by have := NN.out i hi'; omega), NN.out, BX.out.set 0 _, FW.out.setCell (p := ⟨w.heap.size, 0, none⟩) (.inr rfl) _, by have := Q5.out; simp; omega, by rw [Q6.out, HC.out]; simp⟩
      · obtain rfl : k = ks.length := by omega
        have HF : Hid (cutB lo hi ats = acc ++ [⟨lo', hi⟩]) := by
          show _ = _
          rw [Q6.out, List.drop_length]; rfl
        have hL : Hid (L5 = acc.length) := by obtain ⟨_, A', c', e, _⟩ := Q1.out.rd; cases e; rfl
        have RX : Hid (RdR (wr.alloc (.cells #[.string lo', .string hi] 29)) (.slice (some ⟨wr.heap.size, 0, none⟩) 1 1) [⟨lo', hi⟩]) := rdR_blk (xs := [⟨lo', hi⟩]) (Blk.new wr [.string lo', .string hi] _) (by simp)
        go_wp2_with (at_builtin; refine wp_append rfl _ _ 76 rfl 29 i0 _ 2 32 Try.underlying76 hi0 hz0 hz1 hz2 rfl (by decide) _ acc.length (cellsR acc) rfl ?c1 _ rfl 1 (cellsR [⟨lo', hi⟩]) ?c2 ?c3 ?c4 ?c5)
        case c1 => exact Q1.out.mono ((Fr.refl Nix _).alloc _) (fun _ _ h => h)
        case c2 => exact RX.out.src
        case c3 => have := Q5.out; simp only [maxLen]; omega
        case c4 => have := Q5.out; omega
        case c5 =>
          intro v' w' ho' hf hat
          have N : Hid (OwnS w' v' (acc ++ [⟨lo', hi⟩])) := by
            show w'.ownsRow _ _ _ _ _ _
            rw [List.length_append, cellsR_append]
            exact ho'
          have NN : Hid (New w v') := fun i hi' => by
            have h1 := FB.out.size
            have h2 := Q4.out.size
            rcases hat with e | e
            · rw [e] at hi'; have := Q2.out i hi'; omega
            · rw [e] at hi'
              cases hi'
              simp
              omega
          have FF : Hid (Fr Nix w w') := by
            refine (FB.out.then Q4.out (fun i hi' e => by omega)).then (((Fr.refl (fun i => w.heap.size ≤ i) wr).alloc _).then hf (fun i hi' e => ?_)) (fun i hi' e => by omega)
            have := Q2.out i e
            have := FB.out.size
            omega
          clear ho' hf hat
          go_wp2
          go_ret
          rw [HF.out]
          exact ⟨_, rfl, N.out, NN.out, FF.out⟩
end Go.Proofs.Ytpggnelngfpfgaa
