/- The statements' marks: a row that is like no other; rows lent, rows kept. -/
import Derived.Test.YtnilbpofmohfhaaGreatReadB
import Derived.Test.YtnilbpofmohfhaaGreatKitR
import Derived.Test.YtnilbpofmohfhaaGreatRowsE
import Derived.Laws.MakeOwn
namespace Go.Proofs.YtnilbpofmohfhaaGreat
open Go.RowKit

def u8n (n : Nat) : UInt8 := UInt8.ofNat n
def markB (a b : Nat) : ByteArray := ⟨#[35, u8n a, u8n (a / 256), u8n (a / 65536), 47, u8n b, u8n (b / 256), u8n (b / 65536)]⟩
theorem u8n_int (n : Nat) : ((u8n n).toNat : Int) = (n : Int) % 256 := by unfold u8n; simp

set_option maxRecDepth 100000 in
set_option maxHeartbeats 2000000 in
theorem markText_any (w : World) (a b : Nat) (ha : a ≤ 1000000000) (hb : b ≤ 1000000000) :
    Calls Tryz.prog 100 #[.int .i64 a, .int .i64 b] w fun e w' => e = .returned (.string (markB a b)) ∧ Fr Nix w w' := by
  have key := back_any (w.alloc (.cells #[.int .u8 35, .int .u8 ((a : Int) % 256), .int .u8 ((a : Int) / 256 % 256), .int .u8 ((a : Int) / 65536 % 256), .int .u8 47, .int .u8 ((b : Int) % 256), .int .u8 ((b : Int) / 256 % 256), .int .u8 ((b : Int) / 65536 % 256)] 5)) (.slice (some ⟨w.heap.size, 0, none⟩) 8 8) [35, u8n a, u8n (a / 256), u8n (a / 65536), 47, u8n b, u8n (b / 256), u8n (b / 65536)] (by
    have := (Own1.lit (T := 5) (f := by8) w [35, u8n a, u8n (a / 256), u8n (a / 65536), 47, u8n b, u8n (b / 256), u8n (b / 65536)] (by simp)).rd
    simp only [List.map_cons, List.map_nil, by8, u8n_int, Int.natCast_ediv] at this
    exact this)
  go_enter Tryz.func100, Tryz.ntmps100
  go_wp2_with fail
  go_ret
  exact ⟨rfl, (Fr.refl _ _).alloc _⟩

def markR (a b : Nat) : Rw := ⟨markB a b, ⟨#[]⟩⟩
set_option maxRecDepth 100000 in
theorem markRow_any (w : World) (a b : Nat) (ha : a ≤ 1000000000) (hb : b ≤ 1000000000) :
    Calls Tryz.prog 52 #[.int .i64 a, .int .i64 b] w fun e w' => e = .returned (markR a b).val ∧ Fr Nix w w' := by
  have HM := fun W => Lib.hid (markText_any W a b ha hb)
  show Calls _ _ _ _ fun e w' => e = .returned (.agg #[.string (markB a b), .string ⟨#[]⟩]) ∧ Fr Nix w w'
  generalize markB a b = m at HM ⊢
  go_enter Tryz.func52, Tryz.ntmps52
  go_wp2_with fail
  refine (HM _).out.mono ?_
  rintro e w1 ⟨rfl, h1⟩
  have B1 : Blk w1 w.heap.size [.string ⟨#[]⟩, .string ⟨#[]⟩] 48 := (Blk.new w [.string ⟨#[]⟩, .string ⟨#[]⟩] _).mono h1 (fun h => h)
  have c0 : w1.cell? ⟨w.heap.size, 0, none⟩ = some (.string ⟨#[]⟩) := B1.cell 0
  have c1 : w1.cell? ⟨w.heap.size, 1, none⟩ = some (.string ⟨#[]⟩) := B1.cell 1
  have f0 : w1.frozen? ⟨w.heap.size, 0, none⟩ = false := B1.frozen 0
  have f1 : w1.frozen? ⟨w.heap.size, 1, none⟩ = false := B1.frozen 1
  have F1 : Hid (Fr Nix w w1) := ((Fr.refl _ _).alloc _).nix h1
  clear h1 B1
  go_wp2_with fail
  refine bodyPost_ret (v := .agg #[.string m, .string ⟨#[]⟩]) (by simp [results, Tryz.results52, go_sem, *]; try rfl) rfl ⟨rfl, ?_⟩
  · exact (F1.out.setCell (p := ⟨w.heap.size, 0, none⟩) (.inl (Nat.le_refl _)) _).setCell (p := ⟨w.heap.size, 1, none⟩) (.inl (Nat.le_refl _)) _

def marksR (k : Nat) : List Rw := (List.range k).map (markR 1)
theorem wp_append_list {P : Program} {w : World} {ops : Array Oper} {rest : List Oper} {o : Oper} {a : Act} {Q : Exit → Act → World → Prop} (hgd : o.guard = none) (d s : Operand) (dT sT : TypeId)
    (ho : o.op = .call { callee := .builtin .append, args := #[d, s], argTypes := #[dT, sT] }) (vd vs : Value) (hd : a.eval d = vd) (hs : a.eval s = vs)
    (v' : Value) (w' : World) (hr : (Builtin.append_ #[dT, sT] o.type #[vd, vs]).run P w = .ok v' w') (h : wpList P ops Q rest (a.put o.dst v') w') : wpList P ops Q (o :: rest) a w := by
  refine wpList_plain hgd fun K hK => ?_
  unfold Oper.wp execOp
  simp only [ho, resolve, invoke, builtin, Sem.run_bind, Sem.run_pure, Result.andThen_ok, List.map_toArray, List.map_cons, List.map_nil, hd, hs, hr]
  exact hK _ _ h

theorem splice_nil {α : Type} (L : List α) (o : Nat) : splice L o [] = L := by simp [splice]
theorem append_rows (W : World) (g n cap : Nat) (cur : List Value) (hb : Blk W g cur 48) (A : Option Addr) (c : Nat) (xs : List Rw) (hs : RdR W (.slice A xs.length c) xs) (hroom : n + xs.length ≤ cap) (hcl : cur.length = cap * 2) (ty : TypeId) :
    ∃ w', (Builtin.append_ #[29, 29] ty #[.slice (some ⟨g, 0, none⟩) n cap, .slice A xs.length c]).run Tryz.prog W = .ok (.slice (some ⟨g, 0, none⟩) (n + xs.length) cap) w' ∧ Blk w' g (splice cur (n * 2) (cellsR xs)) 48 ∧ Fr (fun k => k = g) W w' := by
  obtain ⟨hl, h1, A', cap', e, h0, hc⟩ := hs.src
  cases e
  cases A with
  | none =>
    obtain rfl : xs = [] := List.eq_nil_of_length_eq_zero (h0 rfl)
    obtain ⟨i0, hi, hz0, hz1, hz2⟩ := info_parts infoRow
    refine ⟨W, ?_, by rw [cellsR, splice_nil]; exact hb, Fr.refl _ _⟩
    have hnc : n ≤ cap := by simp at hroom; exact hroom
    simp [Builtin.append_, run_underlying Tryz.underlying29, sizeOf, typeInfo, hi, Builtin.lenOf, Builtin.firstCells, hnc, storeCells]
  | some ad =>
    exact run_append_blk Tryz.underlying29 (by kernel_rfl) hb hl hroom (hc ad rfl) (by rw [hl, hcl]; omega) h1

set_option maxRecDepth 100000 in
set_option maxHeartbeats 4000000 in
theorem lent_any (w : World) (v : Value) (xs : List Rw) (hv : RdR w v xs) (hl : xs.length ≤ 100000) :
    Calls Tryz.prog 29 #[v] w fun e w' => ∃ g, e = .returned (.slice (some ⟨g, 0, none⟩) xs.length (xs.length + 12)) ∧ RdR w' (.slice (some ⟨g, 0, none⟩) (xs.length + 12) (xs.length + 12)) (xs ++ marksR 12) ∧ w.heap.size ≤ g ∧ Fr Nix w w' := by
  obtain ⟨i0, hi, hz0, hz1, hz2⟩ := info_parts infoRow
  obtain ⟨A, c, rfl⟩ : ∃ A c, v = .slice A xs.length c := by obtain ⟨_, A, c, e, _⟩ := hv; exact ⟨A, c, e⟩
  have hrun := run_make (P := Tryz.prog) w 29 48 i0 _ Tryz.underlying29 hi hz0 .i64 .i64 0 ((xs.length : Int) + 12) (Int.le_refl _) (by omega) (by rw [hz2]; omega) (by omega)
  rw [hz1] at hrun
  have e1 : ((xs.length : Int) + 12).toNat = xs.length + 12 := by omega
  rw [e1] at hrun
  obtain ⟨W1, hW1⟩ : ∃ W1, W1 = w.alloc (.cells (madeCells (Value.agg #[.string ⟨#[]⟩, .string ⟨#[]⟩]).cells ((xs.length + 12) * 2)) 48) := ⟨_, rfl⟩
  rw [← hW1] at hrun
  have B1 : Hid (∃ cur, Blk W1 w.heap.size cur 48 ∧ cur.length = (xs.length + 12) * 2) := by
    refine ⟨(madeCells (Value.agg #[.string ⟨#[]⟩, .string ⟨#[]⟩]).cells ((xs.length + 12) * 2)).toList, ?_, ?_⟩
    · rw [hW1]
      have := Blk.new w (madeCells (Value.agg #[.string ⟨#[]⟩, .string ⟨#[]⟩]).cells ((xs.length + 12) * 2)).toList 48
      simpa using this
    · rw [Array.length_toList, size_madeCells]
  have F1 : Fr Nix w W1 := by rw [hW1]; exact (Fr.refl _ _).alloc _
  obtain ⟨cur, hb1, hcl⟩ := B1.out
  obtain ⟨W2, hrun2, hb2, hf2⟩ := append_rows W1 w.heap.size 0 (xs.length + 12) cur hb1 A c xs (hv.nix F1) (by omega) hcl 29
  have F2 : Hid (Fr Nix w W2) := F1.then hf2 (fun i hi h => by omega)
  have HB2 : Hid (∃ cur, Blk W2 w.heap.size cur 48 ∧ cur.length = (xs.length + 12) * 2 ∧ cur.take ((xs.length + 0) * 2) = cellsR (xs ++ marksR 0)) := by
    refine ⟨_, hb2, ?_, ?_⟩
    · rw [length_splice _ _ _ (by rw [cellsR_length, hcl]; omega), hcl]
    · have := splice_take (L := cur) (A := []) (cs := cellsR xs) (off := 0) (by simp) (by omega)
      simp only [Nat.zero_add, List.nil_append, cellsR_length] at this
      simpa [marksR] using this
  simp only [Nat.zero_add, Nat.zero_mul] at hrun2
  have hw1 : IntKind.i64.wrap ((xs.length : Int) + 12) = (xs.length : Int) + 12 := IntWalk.i64_in _ (by omega)
  clear hv hb1 hf2 hb2 F1 hW1 B1
  go_enter Tryz.func29, Tryz.ntmps29
  go_wp2_with (at_builtin; refine wp_append_list rfl _ _ 29 29 rfl _ _ rfl rfl _ _ hrun2 ?_)
  clear hrun hrun2
  go_loopg [3, 4] 12 (fun gg s3 s4 wr => ∃ (k L : Nat), k ≤ 12 ∧ 12 - k ≤ gg ∧ s4 = .int .i64 k ∧ s3 = .slice (some ⟨w.heap.size, 0, none⟩) L (xs.length + 12) ∧ Hid (L = xs.length + k ∧ Fr Nix w wr ∧ ∃ cur, Blk wr w.heap.size cur 48 ∧ cur.length = (xs.length + 12) * 2 ∧ cur.take ((xs.length + k) * 2) = cellsR (xs ++ marksR k)))
  case atStart => exact ⟨0, xs.length, by omega, by omega, rfl, rfl, rfl, F2.out, HB2.out⟩
  case round =>
    clear HB2 F2 hcl e1 hw1
    obtain ⟨k, L, hk, hg, rfl, rfl, H⟩ := hrel
    obtain ⟨hL, hf, cur, hb, hcl, htk⟩ := H.out
    by_cases hlt : k < 12
    · have hki : (k : Int) < 12 := by omega
      have HM := Lib.hid (markRow_any wr 1 k (by omega) (by omega))
      have HL := Lib.hid hL
      have HF := Lib.hid hf
      have HB := Lib.hid hb
      have HCL := Lib.hid hcl
      have HTK := Lib.hid htk
      clear H hL hf hb hcl htk
      have hsz := HF.out.size
      unfold Rw.val at HM
      go_wp2_with fail
      refine HM.out.mono ?_
      rintro e w4 ⟨rfl, h4⟩
      have F4 : Hid (Fr Nix w (w4.alloc (.cells #[.string (markR 1 k).k, .string (markR 1 k).v] 48))) := (HF.out.nix h4).alloc _
      obtain ⟨W5, hrun5, hb5, hf5⟩ := append_rows (w4.alloc (.cells #[.string (markR 1 k).k, .string (markR 1 k).v] 48)) w.heap.size L (xs.length + 12) cur ((HB.out.mono h4 (fun h => h)).alloc _) (some ⟨w4.heap.size, 0, none⟩) 1 [markR 1 k]
        ((OwnR.of_blk (xs := [markR 1 k]) (Blk.new w4 (cellsR [markR 1 k]) 48) (Nat.le_refl _) (by simp only [maxLen]; simp) (cellsR_length [markR 1 k]) (by rw [List.take_of_length_le (by rw [cellsR_length]; exact Nat.le_refl _)])).rd) (by have := HL.out; simp; omega) HCL.out 29
      have N : Hid (L + 1 = xs.length + (k + 1) ∧ Fr Nix w W5 ∧ ∃ cur, Blk W5 w.heap.size cur 48 ∧ cur.length = (xs.length + 12) * 2 ∧ cur.take ((xs.length + (k + 1)) * 2) = cellsR (xs ++ marksR (k + 1))) := by
        have hL := HL.out
        refine ⟨by omega, F4.out.then hf5 (fun i hi h => by omega), _, hb5, ?_, ?_⟩
        · rw [length_splice _ _ _ (by rw [cellsR_length, HCL.out]; simp; omega), HCL.out]
        · have h1 : cur.take (L * 2) = cellsR (xs ++ marksR k) := by rw [hL]; exact HTK.out
          have := splice_take (L := cur) (cs := cellsR [markR 1 k]) h1 (by rw [HCL.out]; omega)
          rw [cellsR_length, ← cellsR_append] at this
          rw [show (xs.length + (k + 1)) * 2 = L * 2 + [markR 1 k].length * 2 by simp; omega, this]
          simp [marksR, List.range_succ]
      simp only [List.length_cons, List.length_nil, Nat.zero_add] at hrun5
      clear hb5 hf5 h4 HM
      generalize markR 1 k = y at hrun5
      go_wp2_with (at_builtin; refine wp_append_list rfl _ _ 29 29 rfl _ _ rfl rfl _ _ hrun5 ?_)
      clear hrun5
      go_roundg (12 - (k + 1))
      case measure => omega
      case rel => exact ⟨k + 1, L + 1, by omega, by omega, by go_num, rfl, N.out⟩
    · obtain rfl : k = 12 := by omega
      have HF := Lib.hid hf
      have RD : Hid (RdR wr (.slice (some ⟨w.heap.size, 0, none⟩) (xs.length + 12) (xs.length + 12)) (xs ++ marksR 12)) := by
        have hlen : (xs ++ marksR 12).length = xs.length + 12 := by simp [marksR]
        have := (OwnR.of_blk (xs := xs ++ marksR 12) hb (by rw [hlen]; exact Nat.le_refl _) (by simp only [maxLen]; omega) hcl (by rw [hlen]; exact htk)).rd
        rw [hlen] at this
        exact this
      have HL := Lib.hid hL
      clear H hL hf hb hcl htk
      have hq : (xs.length : Int) ≤ ((xs.length : Int) + 12) := by omega
      have hq2 : ¬ xs.length + 12 = 0 := by omega
      go_wp2_with fail
      go_ret
      exact ⟨_, rfl, RD.out, Nat.le_refl _, HF.out⟩
end Go.Proofs.YtnilbpofmohfhaaGreat
