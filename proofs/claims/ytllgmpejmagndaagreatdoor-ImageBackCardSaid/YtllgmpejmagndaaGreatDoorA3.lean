/- Texts of ours, merged: the abstract layer, the walks over the loaded functions, the plain laws. -/
import Derived.Test.YtllgmpejmagndaaGreatDoorA2
namespace Go.Abs
open Go.Proofs
set_option autoImplicit false
set_option linter.all false
theorem encText_length (s : ByteArray) : (encText s).length = 8 + s.size := by simp [encText, encNum_length]
theorem encVal_length (v : DVal) : (encVal v).length = 17 + v.text.size := by simp [encVal, encNum_length, encText_length]; omega
def encCell (x : DCell) : List UInt8 := [byteOf (IntKind.i64.wrap x.kind)] ++ [bit x.sub] ++ encNums [x.lo, x.hi, x.max] ++ encVal x.init ++ [bit x.keep] ++ [byteOf x.dir] ++ encText x.addr
def encOp (x : DOp) : List UInt8 := encNums [x.code, x.a, x.b, x.c, x.d, x.lo, x.hi] ++ encVal x.value
def encLoop (x : DLoop) : List UInt8 := encNums [x.head, x.stop, x.times]
def encFlat (x : DFlat) : List UInt8 := encText x.name ++ encNums [x.what, x.cells, x.base, x.regs, x.slots, x.ops.length] ++ x.ops.flatMap encOp ++ encNum x.loops.length ++ x.loops.flatMap encLoop
def encJob (x : DJob) : List UInt8 := encText x.name ++ encNums [x.interval, x.single, x.priority, x.codes.length] ++ encNums x.codes ++ encNum x.bases.length ++ encNums x.bases ++ encNum x.bound
def encImage (x : DImage) : List UInt8 := [114, 108, 121, 1] ++ encText x.name ++ encNum x.cells.length ++ x.cells.flatMap encCell ++ encNum x.codes.length ++ x.codes.flatMap encFlat ++ encNum x.jobs.length ++ x.jobs.flatMap encJob
theorem encCell_length (x : DCell) : (encCell x).length = 53 + x.init.text.size + x.addr.size := by
 simp only [encCell, List.length_append, List.length_cons, List.length_nil, encNums_length, encText_length, encVal_length]; omega
theorem encOp_length (x : DOp) : (encOp x).length = 73 + x.value.text.size := by
 simp only [encOp, List.length_append, List.length_cons, List.length_nil, encNums_length, encText_length, encVal_length]; omega
theorem encLoop_length (x : DLoop) : (encLoop x).length = 24 := by simp only [encLoop, encNums_length]; rfl
theorem encFlat_length (x : DFlat) : (encFlat x).length = 64 + x.name.size + (x.ops.flatMap encOp).length + (x.loops.flatMap encLoop).length := by
 simp only [encFlat, List.length_append, List.length_cons, List.length_nil, encNum_length, encNums_length, encText_length]; omega
theorem encJob_length (x : DJob) : (encJob x).length = 56 + x.name.size + 8 * x.codes.length + 8 * x.bases.length := by
 simp only [encJob, List.length_append, List.length_cons, List.length_nil, encNum_length, encNums_length, encText_length]; omega
theorem encImage_length (x : DImage) : (encImage x).length = 36 + x.name.size + (x.cells.flatMap encCell).length + (x.codes.flatMap encFlat).length + (x.jobs.flatMap encJob).length := by
 simp only [encImage, List.length_append, List.length_cons, List.length_nil, encNum_length, encNums_length, encText_length]; omega
theorem flat_take {α β : Type} {f : α → List β} {xs : List α} {i : Nat} (h : i < xs.length) : ((xs.take i).flatMap f).length + (f xs[i]).length ≤ (xs.flatMap f).length := by
 have e : xs.flatMap f = (xs.take i).flatMap f ++ (f xs[i] ++ (xs.drop (i + 1)).flatMap f) := by
   conv => lhs; rw [← List.take_append_drop i xs, List.drop_eq_getElem_cons h, List.flatMap_append, List.flatMap_cons]
 rw [e]; simp only [List.length_append]; omega
theorem flat_ge {α β : Type} {f : α → List β} {xs : List α} (h : ∀ x, 1 ≤ (f x).length) : xs.length ≤ (xs.flatMap f).length := by
  induction xs with
  | nil => simp
  | cons x xs ih => have := h x; rw [List.flatMap_cons, List.length_append, List.length_cons]; omega
theorem flat_take_succ {α β : Type} {f : α → List β} {xs : List α} {i : Nat} (h : i < xs.length) : (xs.take (i + 1)).flatMap f = (xs.take i).flatMap f ++ f xs[i] := by
 rw [List.take_succ_eq_append_getElem h, List.flatMap_append]; simp
structure Off (id : Nat) (p : PV) (H : AS) (j : Nat) (rows : List (List PV)) : Prop where
  box : H.box j = some rows
  lt : j < H.next
  ne : j ≠ id
  off : ∀ n s, p ≠ .msl j n s
theorem Off.wrote {id : Nat} {p p' : PV} {H H' : AS} {j : Nat} {rows : List (List PV)} (h : Off id p H j rows) (hw : Wrote id p p' H H') : Off id p' H' j rows :=
  ⟨by rw [hw.box j h.lt h.ne h.off]; exact h.box, Nat.lt_of_lt_of_le h.lt hw.next, h.ne, fun n s e => by
    rcases hw.own j n s e with ⟨m, s', e'⟩ | hge
    · exact h.off m s' e'
    · have := h.lt; omega⟩
theorem Off.ext {id : Nat} {p : PV} {H H' : AS} {j : Nat} {rows : List (List PV)} (h : Off id p H j rows) (he : H.Ext H') : Off id p H' j rows :=
  ⟨by rw [he.box j h.lt]; exact h.box, Nat.lt_of_lt_of_le h.lt he.next, h.ne, h.off⟩
theorem Off.new {id lo : Nat} {p : PV} {H H' : AS} {bs : List UInt8} {rows : List (List PV)} (hw : W H id lo bs p) (hb : H'.box H.next = some rows) (hn : H.next < H'.next) : Off id p H' H.next rows :=
  ⟨hb, hn, by have := hw.lt; have := hw.le; omega, fun n s e => by have := (hw.out.id_lt e).2; omega⟩
theorem Wrote.extR {id : Nat} {p p' : PV} {H H1 H' : AS} (h : Wrote id p p' H H1) (he : H1.Ext H') : Wrote id p p' H H' :=
  ⟨Nat.le_trans h.next he.next, by rw [he.color, h.color], fun j hj hi hp => by rw [he.box j (Nat.lt_of_lt_of_le hj h.next), h.box j hj hi hp], h.own, fun j hj => by rw [he.mp j (Nat.lt_of_lt_of_le hj h.next), h.mp j hj]⟩
theorem part_cell (x : DCell) : partOf Tryz.prog 44 x.row 0 = some (.agg x.row) := by simp [partOf, DCell.row]
theorem part_flat (c : Nat) (x : DFlat) : partOf Tryz.prog 48 (x.row c) 0 = some (.agg (x.row c)) := by simp [partOf, DFlat.row]
theorem part_op (x : DOp) : partOf Tryz.prog 50 x.row 0 = some (.agg x.row) := by simp [partOf, DOp.row]
theorem part_loop (x : DLoop) : partOf Tryz.prog 52 x.row 0 = some (.agg x.row) := by simp [partOf, DLoop.row]
theorem part_job (c : Nat) (x : DJob) : partOf Tryz.prog 55 (x.row c) 0 = some (.agg (x.row c)) := by simp [partOf, DJob.row]
theorem splice_cell (a b c d e f g h i j k : PV) (x : DCell) : splice [a, b, c, d, e, f, g, h, i, j, k] 0 x.row = x.row := by simp [splice, DCell.row]
theorem splice_op (a b c d e f g h i j : PV) (x : DOp) : splice [a, b, c, d, e, f, g, h, i, j] 0 x.row = x.row := by simp [splice, DOp.row]
theorem splice_loop (a b c : PV) (x : DLoop) : splice [a, b, c] 0 x.row = x.row := by simp [splice, DLoop.row]
theorem splice_flat (a b c d e f g h : PV) (n : Nat) (x : DFlat) : splice [a, b, c, d, e, f, g, h] 0 (x.row n) = x.row n := by simp [splice, DFlat.row]
theorem splice_job (a b c d e f g : PV) (n : Nat) (x : DJob) : splice [a, b, c, d, e, f, g] 0 (x.row n) = x.row n := by simp [splice, DJob.row]
@[simp] theorem range3 : List.range 3 = [0, 1, 2] := rfl
@[simp] theorem range4 : List.range 4 = [0, 1, 2, 3] := rfl
@[simp] theorem range6 : List.range 6 = [0, 1, 2, 3, 4, 5] := rfl
@[simp] theorem range7 : List.range 7 = [0, 1, 2, 3, 4, 5, 6] := rfl
@[simp] theorem DCell.row_length (x : DCell) : x.row.length = 11 := rfl
@[simp] theorem DOp.row_length (x : DOp) : x.row.length = 10 := rfl
@[simp] theorem DLoop.row_length (x : DLoop) : x.row.length = 3 := rfl
@[simp] theorem DFlat.row_length (c : Nat) (x : DFlat) : (x.row c).length = 8 := rfl
@[simp] theorem DJob.row_length (c : Nat) (x : DJob) : (x.row c).length = 7 := rfl
theorem abox_image (H : AS) (c : Nat) (x : DImage) : abox H (.agg (x.row c)) = some (.ptr H.next 1 0 0, (H.setBox H.next [x.row c]).bump 1) := by simp [abox, DImage.row]
set_option maxRecDepth 100000 in
set_option maxHeartbeats 1000000 in
theorem wImage (H : AS) (id lo : Nat) (bs : List UInt8) (p : PV) (x : DImage) (c : Nat) (hw : W H id lo bs p) (hb : bs.length + (encImage x).length < 2 ^ 45) : ACalls Tryz.prog 17 [.ptr id 1 0 0, .agg (x.row c)] H fun q H' => q = .tuple [] ∧ ∃ p', W H' id lo (bs ++ encImage x) p' ∧ Wrote id p p' H H' := by
 refine ACalls_open Tryz.func17 rfl (by kernel_rfl) (by simp) fun hwf hbel => ?_
 rw [encImage_length] at hb
 have hW := Wrote.refl id p H
 refine T_mid (fun F H' => F 0 = .ptr id 1 0 0 ∧ F 3 = .ptr H.next 1 0 0 ∧ H.Ext H' ∧ H'.box H.next = some [x.row c] ∧ H.next < H'.next) ?_ ?_
 refine T_rg ?_
 simp [↓put_at, ↓AF.ev_tmp, ↓ex_cons, ↓ex_nil, ↓ex_box, frame0, abox_image]
 exact .bump (.setBox (Nat.le_refl _) (.refl _))
 rintro F H' ⟨g0, g3, gext, gbox, glt⟩
 have ho := Off.new hw gbox glt
 have hw := hw.ext gext
 have hW := hW.extR gext
 refine T_mid (fun F H' => ∃ p1, F 0 = .ptr id 1 0 0 ∧ F 3 = .ptr H.next 1 0 0 ∧ W H' id lo (bs ++ [114, 108, 121, 1]) p1 ∧ Off id p1 H' H.next [x.row c] ∧ Wrote id p p1 H H') ?_ ?_
 refine T_rg ?_
 simp [↓put_at, ↓AF.ev_tmp, ↓ex_cons, ↓ex_nil, ↓ex_move, ↓ex_nilCheck, ↓ex_fieldAddr, ↓ex_load, ↓ex_buildSlice, ↓AF.ev_int, ↓ex_append, ↓ex_store, aFieldAddr, aload, partOf, abuildSlice, astore, splice, frame0, g0, g3, hw.box, frzR_id, brow]
 refine appendK.of (aappend_outT (lo := lo) (rows := bs.map brow) (ys := ([114, 108, 121, 1]).map brow) ?_ ?_ rfl rfl Tryz.sz5 Tryz.zero5 Tryz.by5 rfl rfl (by decide) ?_ (frozen_brow _) ?_ ?_)
 exact hw.out.keep (by simp) (fun j _ hj => by simp [Nat.ne_of_lt hj])
 have := hw.le; simp; try omega
 simp [srcOf, brow]
 simp; omega
 intro p2 H2 hout hab hel
 have hb2 : H2.box id = some [[p]] := by
   rw [hab.box (by have := hw.le; simp; try omega) hw.lt]
   have := Nat.lt_of_lt_of_le hw.lt hw.le
   simp [hw.box]
   try omega
 simp [↓put_at, ↓AF.ev_tmp, ↓ex_cons, ↓ex_nil, ↓ex_move, ↓ex_nilCheck, ↓ex_fieldAddr, ↓ex_load, ↓ex_buildSlice, ↓AF.ev_int, ↓ex_append, ↓ex_store, aFieldAddr, aload, partOf, abuildSlice, astore, splice, frame0, g0, g3, hw.box, frzR_id, brow, hb2, hout.cells, hout.okCells]
 obtain ⟨hw3, hwr3⟩ := hw.step (.bump (.setBox (Nat.le_refl _) (.refl _))) hout hel
 exact ⟨p2, hw3, ho.wrote hwr3, hW.trans hwr3⟩
 rintro F H' ⟨p1, g0, g3, hw, ho, hW⟩
 refine T_sr fun K0 hK0 => ?_
 simp [↓put_at, ↓AF.ev_tmp, ↓ex_cons, ↓ex_nil, ↓ex_move, ↓ex_fieldAddr, ↓ex_load, ↓ex_call, ↓AF.ev_func, aFieldAddr, aload, partOf, frame0, g0, g3, g0, g3, ho.box, DImage.row]
 have hnx := Nat.lt_of_lt_of_le hw.lt hw.le
 refine callK.of (wText _ id lo _ _ _ hw (by simp only [List.length_append, List.length_cons, List.length_nil, encNum_length, encNums_length, encText_length, encVal_length]; omega)) ?_
 rintro _ H2 ⟨rfl, p2, hw2, hwr⟩
 have ho := ho.wrote hwr
 have hW := hW.trans hwr
 have hw := hw2
 simp [↓put_at, ↓AF.ev_tmp, ↓ex_cons, ↓ex_nil, ↓ex_move, ↓ex_fieldAddr, ↓ex_load, ↓ex_call, ↓AF.ev_func, aFieldAddr, aload, partOf, frame0, g0, g3, g0, g3, ho.box, DImage.row]
 refine hK0 _ _ ?_
 try clear hK0 K0
 refine T_sr fun K1 hK1 => ?_
 simp [↓put_at, ↓AF.ev_tmp, ↓ex_cons, ↓ex_nil, ↓ex_move, ↓ex_fieldAddr, ↓ex_load, ↓ex_len, ↓ex_call, ↓AF.ev_func, aFieldAddr, aload, partOf, aLen, frame0, g0, g3, g0, g3, ho.box, DImage.row]
 have hnx := Nat.lt_of_lt_of_le hw.lt hw.le
 refine callK.of (wNum _ id lo _ _ _ hw (by simp only [List.length_append, List.length_cons, List.length_nil, encNum_length, encNums_length, encText_length, encVal_length]; omega)) ?_
 rintro _ H2 ⟨rfl, p2, hw2, hwr⟩
 have ho := ho.wrote hwr
 have hW := hW.trans hwr
 have hw := hw2
 simp [↓put_at, ↓AF.ev_tmp, ↓ex_cons, ↓ex_nil, ↓ex_move, ↓ex_fieldAddr, ↓ex_load, ↓ex_len, ↓ex_call, ↓AF.ev_func, aFieldAddr, aload, partOf, aLen, frame0, g0, g3, g0, g3, ho.box, DImage.row]
 refine hK1 _ _ ?_
 try clear hK1 K1
 refine T_seqk fun K2 hK2 => ?_
 refine T_sr fun K3 hK3 => ?_
 simp [↓put_at, ↓AF.ev_tmp, ↓ex_cons, ↓ex_nil, ↓ex_fieldAddr, ↓ex_load, ↓ex_len, ↓ex_move, ↓AF.ev_int, aFieldAddr, aload, partOf, aLen, frame0, g0, g3, g0, g3, ho.box, DImage.row]
 refine hK3 _ _ ?_
 try clear hK3 K3
 refine T_block ?_
 refine T_loop (fun k F H' => ∃ (i : Nat) (p1 : PV), k = x.cells.length - i ∧ i ≤ x.cells.length ∧ F 0 = .ptr id 1 0 0 ∧ F 3 = .ptr H.next 1 0 0 ∧ F 33 = PV.sl c 11 (x.cells.map DCell.row) ∧ F 34 = pi x.cells.length ∧ F 35 = pi i ∧ W H' id lo (bs ++ [114, 108, 121, 1] ++ encText x.name ++ encNum x.cells.length ++ (x.cells.take i).flatMap encCell) p1 ∧ Off id p1 H' H.next [x.row c] ∧ Wrote id p p1 H H') (x.cells.length) ?_ ?_
 refine ⟨0, p2, ?_⟩
 simp [g0, g3]
 exact ⟨by simpa using hw, ho, hW⟩
 rintro k F H1 ⟨i, p1, rfl, hile, g0, g3, g33, g34, g35, hw, ho, hW⟩
 refine T_sr fun K4 hK4 => ?_
 simp [↓put_at, ↓AF.ev_tmp, ↓ex_cons, ↓ex_nil, ↓ex_binOp, aBin, aBinV, frame0, g0, g3, g0, g3, g0, g3, g33, g34, g35]
 refine hK4 _ _ ?_
 try clear hK4 K4
 refine T_seqk fun K5 hK5 => ?_
 refine T_cond (rfl) (fun c0 => ?_) (fun c0 => ?_)
 have hi : i < x.cells.length := by simp at c0; omega
 have hfli := flat_take (f := encCell) hi
 have hgni := flat_ge (f := encCell) (xs := x.cells) (fun y => by rw [encCell_length]; omega)
 rw [encCell_length] at hfli
 refine T_skip ?_
 simp only [thenK_normal, blockT_normal, loopT_normal]
 refine hK5 _ _ ?_
 try clear hK5 K5
 refine T_seqk fun K6 hK6 => ?_
 refine T_block ?_
 refine T_mid (fun F H' => F 0 = .ptr id 1 0 0 ∧ F 3 = .ptr H.next 1 0 0 ∧ F 33 = PV.sl c 11 (x.cells.map DCell.row) ∧ F 34 = pi x.cells.length ∧ F 35 = pi i ∧ F 5 = .ptr H1.next 1 0 0 ∧ H1.Ext H' ∧ H'.box H1.next = some [x.cells[i].row] ∧ H1.next < H'.next) ?_ ?_
 refine T_rg ?_
 simp [↓put_at, ↓AF.ev_tmp, ↓ex_cons, ↓ex_nil, ↓ex_indexAddr, ↓ex_load, ↓ex_alloc, ↓ex_store, aIndexAddr, aload, aalloc, astore, frame0, g0, g3, g0, g3, g0, g3, g33, g34, g35, sl_get (map_get (f := DCell.row) hi), part_cell, splice_cell]
 exact .setBox (Nat.le_refl _) (.bump (.setBox (Nat.le_refl _) (.refl _)))
 rintro F H' ⟨g0, g3, g33, g34, g35, g5, gext, gbox, glt⟩
 have hc := Off.new hw gbox glt
 have hw := hw.ext gext
 have hW := hW.extR gext
 have ho := ho.ext gext
 refine T_sr fun K7 hK7 => ?_
 simp [↓put_at, ↓AF.ev_tmp, ↓ex_cons, ↓ex_nil, ↓ex_move, ↓ex_fieldAddr, ↓ex_load, ↓ex_convert, ↓ex_call, ↓AF.ev_func, aFieldAddr, aload, partOf, aConvert, frame0, g0, g3, g0, g3, g0, g3, g33, g34, g35, g0, g3, g33, g34, g35, g5, hc.box, DCell.row, aConvert]
 have hnx := Nat.lt_of_lt_of_le hw.lt hw.le
 refine callK.of (wByte _ id lo _ _ _ hw (by simp only [List.length_append, List.length_cons, List.length_nil, encNum_length, encNums_length, encText_length, encVal_length]; omega)) ?_
 rintro _ H2 ⟨rfl, p2, hw2, hwr⟩
 have ho := ho.wrote hwr
 have hc := hc.wrote hwr
 have hW := hW.trans hwr
 have hw := hw2
 simp [↓put_at, ↓AF.ev_tmp, ↓ex_cons, ↓ex_nil, ↓ex_move, ↓ex_fieldAddr, ↓ex_load, ↓ex_convert, ↓ex_call, ↓AF.ev_func, aFieldAddr, aload, partOf, aConvert, frame0, g0, g3, g0, g3, g0, g3, g33, g34, g35, g0, g3, g33, g34, g35, g5, hc.box, DCell.row, aConvert]
 refine hK7 _ _ ?_
 try clear hK7 K7
 refine T_sr fun K8 hK8 => ?_
 simp [↓put_at, ↓AF.ev_tmp, ↓ex_cons, ↓ex_nil, ↓ex_move, ↓ex_fieldAddr, ↓ex_load, ↓ex_call, ↓AF.ev_func, aFieldAddr, aload, partOf, frame0, g0, g3, g0, g3, g0, g3, g33, g34, g35, g0, g3, g33, g34, g35, g5, hc.box, DCell.row]
 have hnx := Nat.lt_of_lt_of_le hw.lt hw.le
 refine callK.of (wTruth _ id lo _ _ _ hw (by simp only [List.length_append, List.length_cons, List.length_nil, encNum_length, encNums_length, encText_length, encVal_length]; omega)) ?_
 rintro _ H2 ⟨rfl, p2, hw2, hwr⟩
 have ho := ho.wrote hwr
 have hc := hc.wrote hwr
 have hW := hW.trans hwr
 have hw := hw2
 simp [↓put_at, ↓AF.ev_tmp, ↓ex_cons, ↓ex_nil, ↓ex_move, ↓ex_fieldAddr, ↓ex_load, ↓ex_call, ↓AF.ev_func, aFieldAddr, aload, partOf, frame0, g0, g3, g0, g3, g0, g3, g33, g34, g35, g0, g3, g33, g34, g35, g5, hc.box, DCell.row]
 refine hK8 _ _ ?_
 try clear hK8 K8
 refine T_sr fun K9 hK9 => ?_
 simp [↓put_at, ↓AF.ev_tmp, ↓ex_cons, ↓ex_nil, ↓ex_move, ↓ex_fieldAddr, ↓ex_load, ↓ex_buildSlice, ↓ex_call, ↓AF.ev_func, aFieldAddr, aload, partOf, abuildSlice, frame0, g0, g3, g0, g3, g0, g3, g33, g34, g35, g0, g3, g33, g34, g35, g5, hc.box, DCell.row, frzR_id]
 have hnx := Nat.lt_of_lt_of_le hw.lt hw.le
 refine callK.of (wNumsM _ id lo _ _ [x.cells[i].lo, x.cells[i].hi, x.cells[i].max] (hw.ext (.bump (.setBox (Nat.le_refl _) (.refl _)))) (by simp only [List.length_append, List.length_cons, List.length_nil, encNum_length, encNums_length, encText_length, encVal_length]; omega) _ (by simp [irow]) (by simp <;> omega) (fun n s e => absurd (hw.out.id_lt e).2 (by simp))) ?_
 rintro _ H2 ⟨rfl, p2, hw2, hwr⟩
 have hwr := hwr.ext (.bump (.setBox (Nat.le_refl _) (.refl _)))
 have ho := ho.wrote hwr
 have hc := hc.wrote hwr
 have hW := hW.trans hwr
 have hw := hw2
 simp [↓put_at, ↓AF.ev_tmp, ↓ex_cons, ↓ex_nil, ↓ex_move, ↓ex_fieldAddr, ↓ex_load, ↓ex_buildSlice, ↓ex_call, ↓AF.ev_func, aFieldAddr, aload, partOf, abuildSlice, frame0, g0, g3, g0, g3, g0, g3, g33, g34, g35, g0, g3, g33, g34, g35, g5, hc.box, DCell.row, frzR_id]
 refine hK9 _ _ ?_
 try clear hK9 K9
 refine T_sr fun K10 hK10 => ?_
 simp [↓put_at, ↓AF.ev_tmp, ↓ex_cons, ↓ex_nil, ↓ex_move, ↓ex_fieldAddr, ↓ex_load, ↓ex_call, ↓AF.ev_func, aFieldAddr, aload, partOf, frame0, g0, g3, g0, g3, g0, g3, g33, g34, g35, g0, g3, g33, g34, g35, g5, hc.box, DCell.row]
 have hnx := Nat.lt_of_lt_of_le hw.lt hw.le
 refine callK.of (wValue _ id lo _ _ x.cells[i].init hw (by simp only [List.length_append, List.length_cons, List.length_nil, encNum_length, encNums_length, encText_length, encVal_length]; omega)) ?_
 rintro _ H2 ⟨rfl, p2, hw2, hwr⟩
 have ho := ho.wrote hwr
 have hc := hc.wrote hwr
 have hW := hW.trans hwr
 have hw := hw2
 simp [↓put_at, ↓AF.ev_tmp, ↓ex_cons, ↓ex_nil, ↓ex_move, ↓ex_fieldAddr, ↓ex_load, ↓ex_call, ↓AF.ev_func, aFieldAddr, aload, partOf, frame0, g0, g3, g0, g3, g0, g3, g33, g34, g35, g0, g3, g33, g34, g35, g5, hc.box, DCell.row]
 refine hK10 _ _ ?_
 try clear hK10 K10
 refine T_sr fun K11 hK11 => ?_
 simp [↓put_at, ↓AF.ev_tmp, ↓ex_cons, ↓ex_nil, ↓ex_move, ↓ex_fieldAddr, ↓ex_load, ↓ex_call, ↓AF.ev_func, aFieldAddr, aload, partOf, frame0, g0, g3, g0, g3, g0, g3, g33, g34, g35, g0, g3, g33, g34, g35, g5, hc.box, DCell.row]
 have hnx := Nat.lt_of_lt_of_le hw.lt hw.le
 refine callK.of (wTruth _ id lo _ _ _ hw (by simp only [List.length_append, List.length_cons, List.length_nil, encNum_length, encNums_length, encText_length, encVal_length]; omega)) ?_
 rintro _ H2 ⟨rfl, p2, hw2, hwr⟩
 have ho := ho.wrote hwr
 have hc := hc.wrote hwr
 have hW := hW.trans hwr
 have hw := hw2
 simp [↓put_at, ↓AF.ev_tmp, ↓ex_cons, ↓ex_nil, ↓ex_move, ↓ex_fieldAddr, ↓ex_load, ↓ex_call, ↓AF.ev_func, aFieldAddr, aload, partOf, frame0, g0, g3, g0, g3, g0, g3, g33, g34, g35, g0, g3, g33, g34, g35, g5, hc.box, DCell.row]
 refine hK11 _ _ ?_
 try clear hK11 K11
 refine T_sr fun K12 hK12 => ?_
 simp [↓put_at, ↓AF.ev_tmp, ↓ex_cons, ↓ex_nil, ↓ex_move, ↓ex_fieldAddr, ↓ex_load, ↓ex_call, ↓AF.ev_func, aFieldAddr, aload, partOf, frame0, g0, g3, g0, g3, g0, g3, g33, g34, g35, g0, g3, g33, g34, g35, g5, hc.box, DCell.row]
 have hnx := Nat.lt_of_lt_of_le hw.lt hw.le
 refine callK.of (wByte _ id lo _ _ _ hw (by simp only [List.length_append, List.length_cons, List.length_nil, encNum_length, encNums_length, encText_length, encVal_length]; omega)) ?_
 rintro _ H2 ⟨rfl, p2, hw2, hwr⟩
 have ho := ho.wrote hwr
 have hc := hc.wrote hwr
 have hW := hW.trans hwr
 have hw := hw2
 simp [↓put_at, ↓AF.ev_tmp, ↓ex_cons, ↓ex_nil, ↓ex_move, ↓ex_fieldAddr, ↓ex_load, ↓ex_call, ↓AF.ev_func, aFieldAddr, aload, partOf, frame0, g0, g3, g0, g3, g0, g3, g33, g34, g35, g0, g3, g33, g34, g35, g5, hc.box, DCell.row]
 refine hK12 _ _ ?_
 try clear hK12 K12
 refine T_rg ?_
 simp [↓put_at, ↓AF.ev_tmp, ↓ex_cons, ↓ex_nil, ↓ex_move, ↓ex_fieldAddr, ↓ex_load, ↓ex_call, ↓AF.ev_func, aFieldAddr, aload, partOf, frame0, g0, g3, g0, g3, g0, g3, g33, g34, g35, g0, g3, g33, g34, g35, g5, hc.box, DCell.row]
 have hnx := Nat.lt_of_lt_of_le hw.lt hw.le
 refine callK.of (wText _ id lo _ _ _ hw (by simp only [List.length_append, List.length_cons, List.length_nil, encNum_length, encNums_length, encText_length, encVal_length]; omega)) ?_
 rintro _ H2 ⟨rfl, p2, hw2, hwr⟩
 have ho := ho.wrote hwr
 have hc := hc.wrote hwr
 have hW := hW.trans hwr
 have hw := hw2
 simp [↓put_at, ↓AF.ev_tmp, ↓ex_cons, ↓ex_nil, ↓ex_move, ↓ex_fieldAddr, ↓ex_load, ↓ex_call, ↓AF.ev_func, aFieldAddr, aload, partOf, frame0, g0, g3, g0, g3, g0, g3, g33, g34, g35, g0, g3, g33, g34, g35, g5, hc.box, DCell.row]
 refine hK6 _ _ ?_
 try clear hK6 K6
 refine T_rg ?_
 simp [↓put_at, ↓AF.ev_tmp, ↓ex_cons, ↓ex_nil, ↓ex_binOp, ↓AF.ev_int, ↓ex_move, aBin, aBinV, frame0, g0, g3, g0, g3, g0, g3, g33, g34, g35, g0, g3, g33, g34, g35, g5]
 refine ⟨x.cells.length - (i + 1), by omega, i + 1, rfl, by omega, by rw [wrap_i64 (by omega) (by omega)]; rfl, _, ?_, ho, hW⟩
 simpa [flat_take_succ hi, encCell] using hw
 have hge : x.cells.length ≤ i := by simp at c0; omega
 rw [List.take_of_length_le hge] at hw
 refine T_exit ?_
 try simp only [tE, bE, lE, if_true, Nat.reduceEqDiff, if_false, reduceIte, tN, bN, lN]
 refine hK2 _ _ ?_
 try clear hK2 K2
 refine T_sr fun K13 hK13 => ?_
 simp [↓put_at, ↓AF.ev_tmp, ↓ex_cons, ↓ex_nil, ↓ex_move, ↓ex_fieldAddr, ↓ex_load, ↓ex_len, ↓ex_call, ↓AF.ev_func, aFieldAddr, aload, partOf, aLen, frame0, g0, g3, g0, g3, g0, g3, g33, g34, g35, ho.box, DImage.row]
 have hnx := Nat.lt_of_lt_of_le hw.lt hw.le
 refine callK.of (wNum _ id lo _ _ _ hw (by simp only [List.length_append, List.length_cons, List.length_nil, encNum_length, encNums_length, encText_length, encVal_length]; omega)) ?_
 rintro _ H2 ⟨rfl, p2, hw2, hwr⟩
 have ho := ho.wrote hwr
 have hW := hW.trans hwr
 have hw := hw2
 simp [↓put_at, ↓AF.ev_tmp, ↓ex_cons, ↓ex_nil, ↓ex_move, ↓ex_fieldAddr, ↓ex_load, ↓ex_len, ↓ex_call, ↓AF.ev_func, aFieldAddr, aload, partOf, aLen, frame0, g0, g3, g0, g3, g0, g3, g33, g34, g35, ho.box, DImage.row]
 refine hK13 _ _ ?_
 try clear hK13 K13
 refine T_seqk fun K14 hK14 => ?_
 refine T_sr fun K15 hK15 => ?_
 simp [↓put_at, ↓AF.ev_tmp, ↓ex_cons, ↓ex_nil, ↓ex_fieldAddr, ↓ex_load, ↓ex_len, ↓ex_move, ↓AF.ev_int, aFieldAddr, aload, partOf, aLen, frame0, g0, g3, g0, g3, g0, g3, g33, g34, g35, ho.box, DImage.row]
 refine hK15 _ _ ?_
 try clear hK15 K15
 refine T_block ?_
 refine T_loop (fun k F H' => ∃ (i : Nat) (p1 : PV), k = x.codes.length - i ∧ i ≤ x.codes.length ∧ F 0 = .ptr id 1 0 0 ∧ F 3 = .ptr H.next 1 0 0 ∧ F 80 = PV.sl c 8 (x.codes.map (DFlat.row c)) ∧ F 81 = pi x.codes.length ∧ F 82 = pi i ∧ W H' id lo (bs ++ [114, 108, 121, 1] ++ encText x.name ++ encNum x.cells.length ++ x.cells.flatMap encCell ++ encNum x.codes.length ++ (x.codes.take i).flatMap encFlat) p1 ∧ Off id p1 H' H.next [x.row c] ∧ Wrote id p p1 H H') (x.codes.length) ?_ ?_
 refine ⟨0, p2, ?_⟩
 simp [g0, g3]
 exact ⟨by simpa using hw, ho, hW⟩
 rintro k F H1 ⟨i, p1, rfl, hile, g0, g3, g80, g81, g82, hw, ho, hW⟩
 refine T_sr fun K16 hK16 => ?_
 simp [↓put_at, ↓AF.ev_tmp, ↓ex_cons, ↓ex_nil, ↓ex_binOp, aBin, aBinV, frame0, g0, g3, g0, g3, g0, g3, g33, g34, g35, g0, g3, g80, g81, g82]
 refine hK16 _ _ ?_
 try clear hK16 K16
 refine T_seqk fun K17 hK17 => ?_
 refine T_cond (rfl) (fun c1 => ?_) (fun c1 => ?_)
 have hi : i < x.codes.length := by simp at c1; omega
 have hfli := flat_take (f := encFlat) hi
 have hgni := flat_ge (f := encFlat) (xs := x.codes) (fun y => by rw [encFlat_length]; omega)
 rw [encFlat_length] at hfli
 refine T_skip ?_
 simp only [thenK_normal, blockT_normal, loopT_normal]
 refine hK17 _ _ ?_
 try clear hK17 K17
 refine T_seqk fun K18 hK18 => ?_
 refine T_block ?_
 refine T_mid (fun F H' => F 0 = .ptr id 1 0 0 ∧ F 3 = .ptr H.next 1 0 0 ∧ F 80 = PV.sl c 8 (x.codes.map (DFlat.row c)) ∧ F 81 = pi x.codes.length ∧ F 82 = pi i ∧ F 7 = .ptr H1.next 1 0 0 ∧ H1.Ext H' ∧ H'.box H1.next = some [x.codes[i].row c] ∧ H1.next < H'.next) ?_ ?_
 refine T_rg ?_
 simp [↓put_at, ↓AF.ev_tmp, ↓ex_cons, ↓ex_nil, ↓ex_indexAddr, ↓ex_load, ↓ex_alloc, ↓ex_store, aIndexAddr, aload, aalloc, astore, frame0, g0, g3, g0, g3, g0, g3, g33, g34, g35, g0, g3, g80, g81, g82, sl_get (map_get (f := DFlat.row c) hi), part_flat, splice_flat]
 exact .setBox (Nat.le_refl _) (.bump (.setBox (Nat.le_refl _) (.refl _)))
 rintro F H' ⟨g0, g3, g80, g81, g82, g7, gext, gbox, glt⟩
 have hf := Off.new hw gbox glt
 have hw := hw.ext gext
 have hW := hW.extR gext
 have ho := ho.ext gext
 refine T_sr fun K19 hK19 => ?_
 simp [↓put_at, ↓AF.ev_tmp, ↓ex_cons, ↓ex_nil, ↓ex_move, ↓ex_fieldAddr, ↓ex_load, ↓ex_call, ↓AF.ev_func, aFieldAddr, aload, partOf, frame0, g0, g3, g0, g3, g0, g3, g33, g34, g35, g0, g3, g80, g81, g82, g0, g3, g80, g81, g82, g7, hf.box, DFlat.row]
 have hnx := Nat.lt_of_lt_of_le hw.lt hw.le
 refine callK.of (wText _ id lo _ _ _ hw (by simp only [List.length_append, List.length_cons, List.length_nil, encNum_length, encNums_length, encText_length, encVal_length]; omega)) ?_
 rintro _ H2 ⟨rfl, p2, hw2, hwr⟩
 have ho := ho.wrote hwr
 have hf := hf.wrote hwr
 have hW := hW.trans hwr
 have hw := hw2
 simp [↓put_at, ↓AF.ev_tmp, ↓ex_cons, ↓ex_nil, ↓ex_move, ↓ex_fieldAddr, ↓ex_load, ↓ex_call, ↓AF.ev_func, aFieldAddr, aload, partOf, frame0, g0, g3, g0, g3, g0, g3, g33, g34, g35, g0, g3, g80, g81, g82, g0, g3, g80, g81, g82, g7, hf.box, DFlat.row]
 refine hK19 _ _ ?_
 try clear hK19 K19
 refine T_sr fun K20 hK20 => ?_
 simp [↓put_at, ↓AF.ev_tmp, ↓ex_cons, ↓ex_nil, ↓ex_move, ↓ex_fieldAddr, ↓ex_load, ↓ex_len, ↓ex_buildSlice, ↓ex_call, ↓AF.ev_func, aFieldAddr, aload, partOf, aLen, abuildSlice, frame0, g0, g3, g0, g3, g0, g3, g33, g34, g35, g0, g3, g80, g81, g82, g0, g3, g80, g81, g82, g7, hf.box, DFlat.row, frzR_id]
 have hnx := Nat.lt_of_lt_of_le hw.lt hw.le
 refine callK.of (wNumsM _ id lo _ _ [x.codes[i].what, x.codes[i].cells, x.codes[i].base, x.codes[i].regs, x.codes[i].slots, (x.codes[i].ops.length : Int)] (hw.ext (.bump (.setBox (Nat.le_refl _) (.refl _)))) (by simp only [List.length_append, List.length_cons, List.length_nil, encNum_length, encNums_length, encText_length, encVal_length]; omega) _ (by simp [irow]) (by simp <;> omega) (fun n s e => absurd (hw.out.id_lt e).2 (by simp))) ?_
 rintro _ H2 ⟨rfl, p2, hw2, hwr⟩
 have hwr := hwr.ext (.bump (.setBox (Nat.le_refl _) (.refl _)))
 have ho := ho.wrote hwr
 have hf := hf.wrote hwr
 have hW := hW.trans hwr
 have hw := hw2
 simp [↓put_at, ↓AF.ev_tmp, ↓ex_cons, ↓ex_nil, ↓ex_move, ↓ex_fieldAddr, ↓ex_load, ↓ex_len, ↓ex_buildSlice, ↓ex_call, ↓AF.ev_func, aFieldAddr, aload, partOf, aLen, abuildSlice, frame0, g0, g3, g0, g3, g0, g3, g33, g34, g35, g0, g3, g80, g81, g82, g0, g3, g80, g81, g82, g7, hf.box, DFlat.row, frzR_id]
 refine hK20 _ _ ?_
 try clear hK20 K20
 refine T_seqk fun K21 hK21 => ?_
 refine T_sr fun K22 hK22 => ?_
 simp [↓put_at, ↓AF.ev_tmp, ↓ex_cons, ↓ex_nil, ↓ex_fieldAddr, ↓ex_load, ↓ex_len, ↓ex_move, ↓AF.ev_int, aFieldAddr, aload, partOf, aLen, frame0, g0, g3, g0, g3, g0, g3, g33, g34, g35, g0, g3, g80, g81, g82, g0, g3, g80, g81, g82, g7, hf.box, DFlat.row]
 refine hK22 _ _ ?_
 try clear hK22 K22
 refine T_block ?_
 refine T_loop (fun k F H' => ∃ (j : Nat) (p1 : PV), k = x.codes[i].ops.length - j ∧ j ≤ x.codes[i].ops.length ∧ F 0 = .ptr id 1 0 0 ∧ F 3 = .ptr H.next 1 0 0 ∧ F 80 = PV.sl c 8 (x.codes.map (DFlat.row c)) ∧ F 81 = pi x.codes.length ∧ F 82 = pi i ∧ F 7 = .ptr H1.next 1 0 0 ∧ F 107 = PV.sl c 10 (x.codes[i].ops.map DOp.row) ∧ F 108 = pi x.codes[i].ops.length ∧ F 109 = pi j ∧ W H' id lo (bs ++ [114, 108, 121, 1] ++ encText x.name ++ encNum x.cells.length ++ x.cells.flatMap encCell ++ encNum x.codes.length ++ (x.codes.take i).flatMap encFlat ++ encText x.codes[i].name ++ encNums [x.codes[i].what, x.codes[i].cells, x.codes[i].base, x.codes[i].regs, x.codes[i].slots, (x.codes[i].ops.length : Int)] ++ (x.codes[i].ops.take j).flatMap encOp) p1 ∧ Off id p1 H' H.next [x.row c] ∧ Off id p1 H' H1.next [x.codes[i].row c] ∧ Wrote id p p1 H H') (x.codes[i].ops.length) ?_ ?_
 refine ⟨0, p2, ?_⟩
 simp [g0, g3, g80, g81, g82, g7]
 exact ⟨by simpa using hw, ho, hf, hW⟩
 rintro k F H3 ⟨j, p1, rfl, hile, g0, g3, g80, g81, g82, g7, g107, g108, g109, hw, ho, hf, hW⟩
 refine T_sr fun K23 hK23 => ?_
 simp [↓put_at, ↓AF.ev_tmp, ↓ex_cons, ↓ex_nil, ↓ex_binOp, aBin, aBinV, frame0, g0, g3, g0, g3, g0, g3, g33, g34, g35, g0, g3, g80, g81, g82, g0, g3, g80, g81, g82, g7, g0, g3, g80, g81, g82, g7, g107, g108, g109]
 refine hK23 _ _ ?_
 try clear hK23 K23
 refine T_seqk fun K24 hK24 => ?_
 refine T_cond (rfl) (fun c2 => ?_) (fun c2 => ?_)
 have hj : j < x.codes[i].ops.length := by simp at c2; omega
 have hflj := flat_take (f := encOp) hj
 have hgnj := flat_ge (f := encOp) (xs := x.codes[i].ops) (fun y => by rw [encOp_length]; omega)
 rw [encOp_length] at hflj
 refine T_skip ?_
 simp only [thenK_normal, blockT_normal, loopT_normal]
 refine hK24 _ _ ?_
 try clear hK24 K24
 refine T_seqk fun K25 hK25 => ?_
 refine T_block ?_
 refine T_mid (fun F H' => F 0 = .ptr id 1 0 0 ∧ F 3 = .ptr H.next 1 0 0 ∧ F 80 = PV.sl c 8 (x.codes.map (DFlat.row c)) ∧ F 81 = pi x.codes.length ∧ F 82 = pi i ∧ F 7 = .ptr H1.next 1 0 0 ∧ F 107 = PV.sl c 10 (x.codes[i].ops.map DOp.row) ∧ F 108 = pi x.codes[i].ops.length ∧ F 109 = pi j ∧ F 9 = .ptr H3.next 1 0 0 ∧ H3.Ext H' ∧ H'.box H3.next = some [x.codes[i].ops[j].row] ∧ H3.next < H'.next) ?_ ?_
 refine T_rg ?_
 simp [↓put_at, ↓AF.ev_tmp, ↓ex_cons, ↓ex_nil, ↓ex_indexAddr, ↓ex_load, ↓ex_alloc, ↓ex_store, aIndexAddr, aload, aalloc, astore, frame0, g0, g3, g0, g3, g0, g3, g33, g34, g35, g0, g3, g80, g81, g82, g0, g3, g80, g81, g82, g7, g0, g3, g80, g81, g82, g7, g107, g108, g109, sl_get (map_get (f := DOp.row) hj), part_op, splice_op]
 exact .setBox (Nat.le_refl _) (.bump (.setBox (Nat.le_refl _) (.refl _)))
 rintro F H' ⟨g0, g3, g80, g81, g82, g7, g107, g108, g109, g9, gext, gbox, glt⟩
 have hc := Off.new hw gbox glt
 have hw := hw.ext gext
 have hW := hW.extR gext
 have ho := ho.ext gext
 have hf := hf.ext gext
 refine T_sr fun K26 hK26 => ?_
 simp [↓put_at, ↓AF.ev_tmp, ↓ex_cons, ↓ex_nil, ↓ex_move, ↓ex_fieldAddr, ↓ex_load, ↓ex_buildSlice, ↓ex_call, ↓AF.ev_func, aFieldAddr, aload, partOf, abuildSlice, frame0, g0, g3, g0, g3, g0, g3, g33, g34, g35, g0, g3, g80, g81, g82, g0, g3, g80, g81, g82, g7, g0, g3, g80, g81, g82, g7, g107, g108, g109, g0, g3, g80, g81, g82, g7, g107, g108, g109, g9, hc.box, DOp.row, frzR_id]
 have hnx := Nat.lt_of_lt_of_le hw.lt hw.le
 refine callK.of (wNumsM _ id lo _ _ [x.codes[i].ops[j].code, x.codes[i].ops[j].a, x.codes[i].ops[j].b, x.codes[i].ops[j].c, x.codes[i].ops[j].d, x.codes[i].ops[j].lo, x.codes[i].ops[j].hi] (hw.ext (.bump (.setBox (Nat.le_refl _) (.refl _)))) (by simp only [List.length_append, List.length_cons, List.length_nil, encNum_length, encNums_length, encText_length, encVal_length]; omega) _ (by simp [irow]) (by simp <;> omega) (fun n s e => absurd (hw.out.id_lt e).2 (by simp))) ?_
 rintro _ H2 ⟨rfl, p2, hw2, hwr⟩
 have hwr := hwr.ext (.bump (.setBox (Nat.le_refl _) (.refl _)))
 have ho := ho.wrote hwr
 have hf := hf.wrote hwr
 have hc := hc.wrote hwr
 have hW := hW.trans hwr
 have hw := hw2
 simp [↓put_at, ↓AF.ev_tmp, ↓ex_cons, ↓ex_nil, ↓ex_move, ↓ex_fieldAddr, ↓ex_load, ↓ex_buildSlice, ↓ex_call, ↓AF.ev_func, aFieldAddr, aload, partOf, abuildSlice, frame0, g0, g3, g0, g3, g0, g3, g33, g34, g35, g0, g3, g80, g81, g82, g0, g3, g80, g81, g82, g7, g0, g3, g80, g81, g82, g7, g107, g108, g109, g0, g3, g80, g81, g82, g7, g107, g108, g109, g9, hc.box, DOp.row, frzR_id]
 refine hK26 _ _ ?_
 try clear hK26 K26
 refine T_rg ?_
 simp [↓put_at, ↓AF.ev_tmp, ↓ex_cons, ↓ex_nil, ↓ex_move, ↓ex_fieldAddr, ↓ex_load, ↓ex_call, ↓AF.ev_func, aFieldAddr, aload, partOf, frame0, g0, g3, g0, g3, g0, g3, g33, g34, g35, g0, g3, g80, g81, g82, g0, g3, g80, g81, g82, g7, g0, g3, g80, g81, g82, g7, g107, g108, g109, g0, g3, g80, g81, g82, g7, g107, g108, g109, g9, hc.box, DOp.row]
 have hnx := Nat.lt_of_lt_of_le hw.lt hw.le
 refine callK.of (wValue _ id lo _ _ x.codes[i].ops[j].value hw (by simp only [List.length_append, List.length_cons, List.length_nil, encNum_length, encNums_length, encText_length, encVal_length]; omega)) ?_
 rintro _ H2 ⟨rfl, p2, hw2, hwr⟩
 have ho := ho.wrote hwr
 have hf := hf.wrote hwr
 have hc := hc.wrote hwr
 have hW := hW.trans hwr
 have hw := hw2
 simp [↓put_at, ↓AF.ev_tmp, ↓ex_cons, ↓ex_nil, ↓ex_move, ↓ex_fieldAddr, ↓ex_load, ↓ex_call, ↓AF.ev_func, aFieldAddr, aload, partOf, frame0, g0, g3, g0, g3, g0, g3, g33, g34, g35, g0, g3, g80, g81, g82, g0, g3, g80, g81, g82, g7, g0, g3, g80, g81, g82, g7, g107, g108, g109, g0, g3, g80, g81, g82, g7, g107, g108, g109, g9, hc.box, DOp.row]
 refine hK25 _ _ ?_
 try clear hK25 K25
 refine T_rg ?_
 simp [↓put_at, ↓AF.ev_tmp, ↓ex_cons, ↓ex_nil, ↓ex_binOp, ↓AF.ev_int, ↓ex_move, aBin, aBinV, frame0, g0, g3, g0, g3, g0, g3, g33, g34, g35, g0, g3, g80, g81, g82, g0, g3, g80, g81, g82, g7, g0, g3, g80, g81, g82, g7, g107, g108, g109, g0, g3, g80, g81, g82, g7, g107, g108, g109, g9]
 refine ⟨x.codes[i].ops.length - (j + 1), by omega, j + 1, rfl, by omega, by rw [wrap_i64 (by omega) (by omega)]; rfl, _, ?_, ho, hf, hW⟩
 simpa [flat_take_succ hj, encOp] using hw
 have hge : x.codes[i].ops.length ≤ j := by simp at c2; omega
 rw [List.take_of_length_le hge] at hw
 refine T_exit ?_
 try simp only [tE, bE, lE, if_true, Nat.reduceEqDiff, if_false, reduceIte, tN, bN, lN]
 refine hK21 _ _ ?_
 try clear hK21 K21
 refine T_sr fun K27 hK27 => ?_
 simp [↓put_at, ↓AF.ev_tmp, ↓ex_cons, ↓ex_nil, ↓ex_move, ↓ex_fieldAddr, ↓ex_load, ↓ex_len, ↓ex_call, ↓AF.ev_func, aFieldAddr, aload, partOf, aLen, frame0, g0, g3, g0, g3, g0, g3, g33, g34, g35, g0, g3, g80, g81, g82, g0, g3, g80, g81, g82, g7, g0, g3, g80, g81, g82, g7, g107, g108, g109, hf.box, DFlat.row]
 have hnx := Nat.lt_of_lt_of_le hw.lt hw.le
 refine callK.of (wNum _ id lo _ _ _ hw (by simp only [List.length_append, List.length_cons, List.length_nil, encNum_length, encNums_length, encText_length, encVal_length]; omega)) ?_
 rintro _ H2 ⟨rfl, p2, hw2, hwr⟩
 have ho := ho.wrote hwr
 have hf := hf.wrote hwr
 have hW := hW.trans hwr
 have hw := hw2
 simp [↓put_at, ↓AF.ev_tmp, ↓ex_cons, ↓ex_nil, ↓ex_move, ↓ex_fieldAddr, ↓ex_load, ↓ex_len, ↓ex_call, ↓AF.ev_func, aFieldAddr, aload, partOf, aLen, frame0, g0, g3, g0, g3, g0, g3, g33, g34, g35, g0, g3, g80, g81, g82, g0, g3, g80, g81, g82, g7, g0, g3, g80, g81, g82, g7, g107, g108, g109, hf.box, DFlat.row]
 refine hK27 _ _ ?_
 try clear hK27 K27
 refine T_sr fun K28 hK28 => ?_
 simp [↓put_at, ↓AF.ev_tmp, ↓ex_cons, ↓ex_nil, ↓ex_fieldAddr, ↓ex_load, ↓ex_len, ↓ex_move, ↓AF.ev_int, aFieldAddr, aload, partOf, aLen, frame0, g0, g3, g0, g3, g0, g3, g33, g34, g35, g0, g3, g80, g81, g82, g0, g3, g80, g81, g82, g7, g0, g3, g80, g81, g82, g7, g107, g108, g109, hf.box, DFlat.row]
 refine hK28 _ _ ?_
 try clear hK28 K28
 refine T_block ?_
 refine T_loop (fun k F H' => ∃ (j : Nat) (p1 : PV), k = x.codes[i].loops.length - j ∧ j ≤ x.codes[i].loops.length ∧ F 0 = .ptr id 1 0 0 ∧ F 3 = .ptr H.next 1 0 0 ∧ F 80 = PV.sl c 8 (x.codes.map (DFlat.row c)) ∧ F 81 = pi x.codes.length ∧ F 82 = pi i ∧ F 7 = .ptr H1.next 1 0 0 ∧ F 141 = PV.sl c 3 (x.codes[i].loops.map DLoop.row) ∧ F 142 = pi x.codes[i].loops.length ∧ F 143 = pi j ∧ W H' id lo (bs ++ [114, 108, 121, 1] ++ encText x.name ++ encNum x.cells.length ++ x.cells.flatMap encCell ++ encNum x.codes.length ++ (x.codes.take i).flatMap encFlat ++ encText x.codes[i].name ++ encNums [x.codes[i].what, x.codes[i].cells, x.codes[i].base, x.codes[i].regs, x.codes[i].slots, (x.codes[i].ops.length : Int)] ++ x.codes[i].ops.flatMap encOp ++ encNum x.codes[i].loops.length ++ (x.codes[i].loops.take j).flatMap encLoop) p1 ∧ Off id p1 H' H.next [x.row c] ∧ Off id p1 H' H1.next [x.codes[i].row c] ∧ Wrote id p p1 H H') (x.codes[i].loops.length) ?_ ?_
 refine ⟨0, p2, ?_⟩
 simp [g0, g3, g80, g81, g82, g7]
 exact ⟨by simpa using hw, ho, hf, hW⟩
 rintro k F H3 ⟨j, p1, rfl, hile, g0, g3, g80, g81, g82, g7, g141, g142, g143, hw, ho, hf, hW⟩
 refine T_sr fun K29 hK29 => ?_
 simp [↓put_at, ↓AF.ev_tmp, ↓ex_cons, ↓ex_nil, ↓ex_binOp, aBin, aBinV, frame0, g0, g3, g0, g3, g0, g3, g33, g34, g35, g0, g3, g80, g81, g82, g0, g3, g80, g81, g82, g7, g0, g3, g80, g81, g82, g7, g107, g108, g109, g0, g3, g80, g81, g82, g7, g141, g142, g143]
 refine hK29 _ _ ?_
 try clear hK29 K29
 refine T_seqk fun K30 hK30 => ?_
 refine T_cond (rfl) (fun c3 => ?_) (fun c3 => ?_)
 have hj : j < x.codes[i].loops.length := by simp at c3; omega
 have hflj := flat_take (f := encLoop) hj
 have hgnj := flat_ge (f := encLoop) (xs := x.codes[i].loops) (fun y => by rw [encLoop_length]; omega)
 rw [encLoop_length] at hflj
 refine T_skip ?_
 simp only [thenK_normal, blockT_normal, loopT_normal]
 refine hK30 _ _ ?_
 try clear hK30 K30
 refine T_seqk fun K31 hK31 => ?_
 refine T_block ?_
 refine T_mid (fun F H' => F 0 = .ptr id 1 0 0 ∧ F 3 = .ptr H.next 1 0 0 ∧ F 80 = PV.sl c 8 (x.codes.map (DFlat.row c)) ∧ F 81 = pi x.codes.length ∧ F 82 = pi i ∧ F 7 = .ptr H1.next 1 0 0 ∧ F 141 = PV.sl c 3 (x.codes[i].loops.map DLoop.row) ∧ F 142 = pi x.codes[i].loops.length ∧ F 143 = pi j ∧ F 11 = .ptr H3.next 1 0 0 ∧ H3.Ext H' ∧ H'.box H3.next = some [x.codes[i].loops[j].row] ∧ H3.next < H'.next) ?_ ?_
 refine T_rg ?_
 simp [↓put_at, ↓AF.ev_tmp, ↓ex_cons, ↓ex_nil, ↓ex_indexAddr, ↓ex_load, ↓ex_alloc, ↓ex_store, aIndexAddr, aload, aalloc, astore, frame0, g0, g3, g0, g3, g0, g3, g33, g34, g35, g0, g3, g80, g81, g82, g0, g3, g80, g81, g82, g7, g0, g3, g80, g81, g82, g7, g107, g108, g109, g0, g3, g80, g81, g82, g7, g141, g142, g143, sl_get (map_get (f := DLoop.row) hj), part_loop, splice_loop]
 exact .setBox (Nat.le_refl _) (.bump (.setBox (Nat.le_refl _) (.refl _)))
 rintro F H' ⟨g0, g3, g80, g81, g82, g7, g141, g142, g143, g11, gext, gbox, glt⟩
 have hc := Off.new hw gbox glt
 have hw := hw.ext gext
 have hW := hW.extR gext
 have ho := ho.ext gext
 have hf := hf.ext gext
 refine T_rg ?_
 simp [↓put_at, ↓AF.ev_tmp, ↓ex_cons, ↓ex_nil, ↓ex_move, ↓ex_fieldAddr, ↓ex_load, ↓ex_buildSlice, ↓ex_call, ↓AF.ev_func, aFieldAddr, aload, partOf, abuildSlice, frame0, g0, g3, g0, g3, g0, g3, g33, g34, g35, g0, g3, g80, g81, g82, g0, g3, g80, g81, g82, g7, g0, g3, g80, g81, g82, g7, g107, g108, g109, g0, g3, g80, g81, g82, g7, g141, g142, g143, g0, g3, g80, g81, g82, g7, g141, g142, g143, g11, hc.box, DLoop.row, frzR_id]
 have hnx := Nat.lt_of_lt_of_le hw.lt hw.le
 refine callK.of (wNumsM _ id lo _ _ [x.codes[i].loops[j].head, x.codes[i].loops[j].stop, x.codes[i].loops[j].times] (hw.ext (.bump (.setBox (Nat.le_refl _) (.refl _)))) (by simp only [List.length_append, List.length_cons, List.length_nil, encNum_length, encNums_length, encText_length, encVal_length]; omega) _ (by simp [irow]) (by simp <;> omega) (fun n s e => absurd (hw.out.id_lt e).2 (by simp))) ?_
 rintro _ H2 ⟨rfl, p2, hw2, hwr⟩
 have hwr := hwr.ext (.bump (.setBox (Nat.le_refl _) (.refl _)))
 have ho := ho.wrote hwr
 have hf := hf.wrote hwr
 have hc := hc.wrote hwr
 have hW := hW.trans hwr
 have hw := hw2
 simp [↓put_at, ↓AF.ev_tmp, ↓ex_cons, ↓ex_nil, ↓ex_move, ↓ex_fieldAddr, ↓ex_load, ↓ex_buildSlice, ↓ex_call, ↓AF.ev_func, aFieldAddr, aload, partOf, abuildSlice, frame0, g0, g3, g0, g3, g0, g3, g33, g34, g35, g0, g3, g80, g81, g82, g0, g3, g80, g81, g82, g7, g0, g3, g80, g81, g82, g7, g107, g108, g109, g0, g3, g80, g81, g82, g7, g141, g142, g143, g0, g3, g80, g81, g82, g7, g141, g142, g143, g11, hc.box, DLoop.row, frzR_id]
 refine hK31 _ _ ?_
 try clear hK31 K31
 refine T_rg ?_
 simp [↓put_at, ↓AF.ev_tmp, ↓ex_cons, ↓ex_nil, ↓ex_binOp, ↓AF.ev_int, ↓ex_move, aBin, aBinV, frame0, g0, g3, g0, g3, g0, g3, g33, g34, g35, g0, g3, g80, g81, g82, g0, g3, g80, g81, g82, g7, g0, g3, g80, g81, g82, g7, g107, g108, g109, g0, g3, g80, g81, g82, g7, g141, g142, g143, g0, g3, g80, g81, g82, g7, g141, g142, g143, g11]
 refine ⟨x.codes[i].loops.length - (j + 1), by omega, j + 1, rfl, by omega, by rw [wrap_i64 (by omega) (by omega)]; rfl, _, ?_, ho, hf, hW⟩
 simpa [flat_take_succ hj, encLoop] using hw
 have hge : x.codes[i].loops.length ≤ j := by simp at c3; omega
 rw [List.take_of_length_le hge] at hw
 refine T_exit ?_
 try simp only [tE, bE, lE, if_true, Nat.reduceEqDiff, if_false, reduceIte, tN, bN, lN]
 refine hK18 _ _ ?_
 try clear hK18 K18
 refine T_rg ?_
 simp [↓put_at, ↓AF.ev_tmp, ↓ex_cons, ↓ex_nil, ↓ex_binOp, ↓AF.ev_int, ↓ex_move, aBin, aBinV, frame0, g0, g3, g0, g3, g0, g3, g33, g34, g35, g0, g3, g80, g81, g82, g0, g3, g80, g81, g82, g7, g0, g3, g80, g81, g82, g7, g107, g108, g109, g0, g3, g80, g81, g82, g7, g141, g142, g143]
 refine ⟨x.codes.length - (i + 1), by omega, i + 1, rfl, by omega, by rw [wrap_i64 (by omega) (by omega)]; rfl, _, ?_, ho, hW⟩
 simpa [flat_take_succ hi, encFlat] using hw
 have hge : x.codes.length ≤ i := by simp at c1; omega
 rw [List.take_of_length_le hge] at hw
 refine T_exit ?_
 try simp only [tE, bE, lE, if_true, Nat.reduceEqDiff, if_false, reduceIte, tN, bN, lN]
 refine hK14 _ _ ?_
 try clear hK14 K14
 refine T_sr fun K32 hK32 => ?_
 simp [↓put_at, ↓AF.ev_tmp, ↓ex_cons, ↓ex_nil, ↓ex_move, ↓ex_fieldAddr, ↓ex_load, ↓ex_len, ↓ex_call, ↓AF.ev_func, aFieldAddr, aload, partOf, aLen, frame0, g0, g3, g0, g3, g0, g3, g33, g34, g35, g0, g3, g80, g81, g82, ho.box, DImage.row]
 have hnx := Nat.lt_of_lt_of_le hw.lt hw.le
 refine callK.of (wNum _ id lo _ _ _ hw (by simp only [List.length_append, List.length_cons, List.length_nil, encNum_length, encNums_length, encText_length, encVal_length]; omega)) ?_
 rintro _ H2 ⟨rfl, p2, hw2, hwr⟩
 have ho := ho.wrote hwr
 have hW := hW.trans hwr
 have hw := hw2
 simp [↓put_at, ↓AF.ev_tmp, ↓ex_cons, ↓ex_nil, ↓ex_move, ↓ex_fieldAddr, ↓ex_load, ↓ex_len, ↓ex_call, ↓AF.ev_func, aFieldAddr, aload, partOf, aLen, frame0, g0, g3, g0, g3, g0, g3, g33, g34, g35, g0, g3, g80, g81, g82, ho.box, DImage.row]
 refine hK32 _ _ ?_
 try clear hK32 K32
 refine T_sr fun K33 hK33 => ?_
 simp [↓put_at, ↓AF.ev_tmp, ↓ex_cons, ↓ex_nil, ↓ex_fieldAddr, ↓ex_load, ↓ex_len, ↓ex_move, ↓AF.ev_int, aFieldAddr, aload, partOf, aLen, frame0, g0, g3, g0, g3, g0, g3, g33, g34, g35, g0, g3, g80, g81, g82, ho.box, DImage.row]
 refine hK33 _ _ ?_
 try clear hK33 K33
 refine T_block ?_
 refine T_loop (fun k F H' => ∃ (i : Nat) (p1 : PV), k = x.jobs.length - i ∧ i ≤ x.jobs.length ∧ F 0 = .ptr id 1 0 0 ∧ F 3 = .ptr H.next 1 0 0 ∧ F 164 = PV.sl c 7 (x.jobs.map (DJob.row c)) ∧ F 165 = pi x.jobs.length ∧ F 166 = pi i ∧ W H' id lo (bs ++ [114, 108, 121, 1] ++ encText x.name ++ encNum x.cells.length ++ x.cells.flatMap encCell ++ encNum x.codes.length ++ x.codes.flatMap encFlat ++ encNum x.jobs.length ++ (x.jobs.take i).flatMap encJob) p1 ∧ Off id p1 H' H.next [x.row c] ∧ Wrote id p p1 H H') (x.jobs.length) ?_ ?_
 refine ⟨0, p2, ?_⟩
 simp [g0, g3]
 exact ⟨by simpa using hw, ho, hW⟩
 rintro k F H1 ⟨i, p1, rfl, hile, g0, g3, g164, g165, g166, hw, ho, hW⟩
 refine T_sr fun K34 hK34 => ?_
 simp [↓put_at, ↓AF.ev_tmp, ↓ex_cons, ↓ex_nil, ↓ex_binOp, aBin, aBinV, frame0, g0, g3, g0, g3, g0, g3, g33, g34, g35, g0, g3, g80, g81, g82, g0, g3, g164, g165, g166]
 refine hK34 _ _ ?_
 try clear hK34 K34
 refine T_seqk fun K35 hK35 => ?_
 refine T_cond (rfl) (fun c4 => ?_) (fun c4 => ?_)
 have hi : i < x.jobs.length := by simp at c4; omega
 have hfli := flat_take (f := encJob) hi
 have hgni := flat_ge (f := encJob) (xs := x.jobs) (fun y => by rw [encJob_length]; omega)
 rw [encJob_length] at hfli
 refine T_skip ?_
 simp only [thenK_normal, blockT_normal, loopT_normal]
 refine hK35 _ _ ?_
 try clear hK35 K35
 refine T_seqk fun K36 hK36 => ?_
 refine T_block ?_
 refine T_mid (fun F H' => F 0 = .ptr id 1 0 0 ∧ F 3 = .ptr H.next 1 0 0 ∧ F 164 = PV.sl c 7 (x.jobs.map (DJob.row c)) ∧ F 165 = pi x.jobs.length ∧ F 166 = pi i ∧ F 13 = .ptr H1.next 1 0 0 ∧ H1.Ext H' ∧ H'.box H1.next = some [x.jobs[i].row c] ∧ H1.next < H'.next) ?_ ?_
 refine T_rg ?_
 simp [↓put_at, ↓AF.ev_tmp, ↓ex_cons, ↓ex_nil, ↓ex_indexAddr, ↓ex_load, ↓ex_alloc, ↓ex_store, aIndexAddr, aload, aalloc, astore, frame0, g0, g3, g0, g3, g0, g3, g33, g34, g35, g0, g3, g80, g81, g82, g0, g3, g164, g165, g166, sl_get (map_get (f := DJob.row c) hi), part_job, splice_job]
 exact .setBox (Nat.le_refl _) (.bump (.setBox (Nat.le_refl _) (.refl _)))
 rintro F H' ⟨g0, g3, g164, g165, g166, g13, gext, gbox, glt⟩
 have hc := Off.new hw gbox glt
 have hw := hw.ext gext
 have hW := hW.extR gext
 have ho := ho.ext gext
 refine T_sr fun K37 hK37 => ?_
 simp [↓put_at, ↓AF.ev_tmp, ↓ex_cons, ↓ex_nil, ↓ex_move, ↓ex_fieldAddr, ↓ex_load, ↓ex_call, ↓AF.ev_func, aFieldAddr, aload, partOf, frame0, g0, g3, g0, g3, g0, g3, g33, g34, g35, g0, g3, g80, g81, g82, g0, g3, g164, g165, g166, g0, g3, g164, g165, g166, g13, hc.box, DJob.row]
 have hnx := Nat.lt_of_lt_of_le hw.lt hw.le
 refine callK.of (wText _ id lo _ _ _ hw (by simp only [List.length_append, List.length_cons, List.length_nil, encNum_length, encNums_length, encText_length, encVal_length]; omega)) ?_
 rintro _ H2 ⟨rfl, p2, hw2, hwr⟩
 have ho := ho.wrote hwr
 have hc := hc.wrote hwr
 have hW := hW.trans hwr
 have hw := hw2
 simp [↓put_at, ↓AF.ev_tmp, ↓ex_cons, ↓ex_nil, ↓ex_move, ↓ex_fieldAddr, ↓ex_load, ↓ex_call, ↓AF.ev_func, aFieldAddr, aload, partOf, frame0, g0, g3, g0, g3, g0, g3, g33, g34, g35, g0, g3, g80, g81, g82, g0, g3, g164, g165, g166, g0, g3, g164, g165, g166, g13, hc.box, DJob.row]
 refine hK37 _ _ ?_
 try clear hK37 K37
 refine T_sr fun K38 hK38 => ?_
 simp [↓put_at, ↓AF.ev_tmp, ↓ex_cons, ↓ex_nil, ↓ex_move, ↓ex_fieldAddr, ↓ex_load, ↓ex_len, ↓ex_buildSlice, ↓ex_call, ↓AF.ev_func, aFieldAddr, aload, partOf, aLen, abuildSlice, frame0, g0, g3, g0, g3, g0, g3, g33, g34, g35, g0, g3, g80, g81, g82, g0, g3, g164, g165, g166, g0, g3, g164, g165, g166, g13, hc.box, DJob.row, frzR_id]
 have hnx := Nat.lt_of_lt_of_le hw.lt hw.le
 refine callK.of (wNumsM _ id lo _ _ [x.jobs[i].interval, x.jobs[i].single, x.jobs[i].priority, (x.jobs[i].codes.length : Int)] (hw.ext (.bump (.setBox (Nat.le_refl _) (.refl _)))) (by simp only [List.length_append, List.length_cons, List.length_nil, encNum_length, encNums_length, encText_length, encVal_length]; omega) _ (by simp [irow]) (by simp <;> omega) (fun n s e => absurd (hw.out.id_lt e).2 (by simp))) ?_
 rintro _ H2 ⟨rfl, p2, hw2, hwr⟩
 have hwr := hwr.ext (.bump (.setBox (Nat.le_refl _) (.refl _)))
 have ho := ho.wrote hwr
 have hc := hc.wrote hwr
 have hW := hW.trans hwr
 have hw := hw2
 simp [↓put_at, ↓AF.ev_tmp, ↓ex_cons, ↓ex_nil, ↓ex_move, ↓ex_fieldAddr, ↓ex_load, ↓ex_len, ↓ex_buildSlice, ↓ex_call, ↓AF.ev_func, aFieldAddr, aload, partOf, aLen, abuildSlice, frame0, g0, g3, g0, g3, g0, g3, g33, g34, g35, g0, g3, g80, g81, g82, g0, g3, g164, g165, g166, g0, g3, g164, g165, g166, g13, hc.box, DJob.row, frzR_id]
 refine hK38 _ _ ?_
 try clear hK38 K38
 refine T_sr fun K39 hK39 => ?_
 simp [↓put_at, ↓AF.ev_tmp, ↓ex_cons, ↓ex_nil, ↓ex_move, ↓ex_fieldAddr, ↓ex_load, ↓ex_call, ↓AF.ev_func, aFieldAddr, aload, partOf, frame0, g0, g3, g0, g3, g0, g3, g33, g34, g35, g0, g3, g80, g81, g82, g0, g3, g164, g165, g166, g0, g3, g164, g165, g166, g13, hc.box, DJob.row]
 have hnx := Nat.lt_of_lt_of_le hw.lt hw.le
 refine callK.of (wNumsF _ id lo _ _ x.jobs[i].codes hw (by simp only [List.length_append, List.length_cons, List.length_nil, encNum_length, encNums_length, encText_length, encVal_length]; omega) _) ?_
 rintro _ H2 ⟨rfl, p2, hw2, hwr⟩
 have ho := ho.wrote hwr
 have hc := hc.wrote hwr
 have hW := hW.trans hwr
 have hw := hw2
 simp [↓put_at, ↓AF.ev_tmp, ↓ex_cons, ↓ex_nil, ↓ex_move, ↓ex_fieldAddr, ↓ex_load, ↓ex_call, ↓AF.ev_func, aFieldAddr, aload, partOf, frame0, g0, g3, g0, g3, g0, g3, g33, g34, g35, g0, g3, g80, g81, g82, g0, g3, g164, g165, g166, g0, g3, g164, g165, g166, g13, hc.box, DJob.row]
 refine hK39 _ _ ?_
 try clear hK39 K39
 refine T_sr fun K40 hK40 => ?_
 simp [↓put_at, ↓AF.ev_tmp, ↓ex_cons, ↓ex_nil, ↓ex_move, ↓ex_fieldAddr, ↓ex_load, ↓ex_len, ↓ex_call, ↓AF.ev_func, aFieldAddr, aload, partOf, aLen, frame0, g0, g3, g0, g3, g0, g3, g33, g34, g35, g0, g3, g80, g81, g82, g0, g3, g164, g165, g166, g0, g3, g164, g165, g166, g13, hc.box, DJob.row]
 have hnx := Nat.lt_of_lt_of_le hw.lt hw.le
 refine callK.of (wNum _ id lo _ _ _ hw (by simp only [List.length_append, List.length_cons, List.length_nil, encNum_length, encNums_length, encText_length, encVal_length]; omega)) ?_
 rintro _ H2 ⟨rfl, p2, hw2, hwr⟩
 have ho := ho.wrote hwr
 have hc := hc.wrote hwr
 have hW := hW.trans hwr
 have hw := hw2
 simp [↓put_at, ↓AF.ev_tmp, ↓ex_cons, ↓ex_nil, ↓ex_move, ↓ex_fieldAddr, ↓ex_load, ↓ex_len, ↓ex_call, ↓AF.ev_func, aFieldAddr, aload, partOf, aLen, frame0, g0, g3, g0, g3, g0, g3, g33, g34, g35, g0, g3, g80, g81, g82, g0, g3, g164, g165, g166, g0, g3, g164, g165, g166, g13, hc.box, DJob.row]
 refine hK40 _ _ ?_
 try clear hK40 K40
 refine T_sr fun K41 hK41 => ?_
 simp [↓put_at, ↓AF.ev_tmp, ↓ex_cons, ↓ex_nil, ↓ex_move, ↓ex_fieldAddr, ↓ex_load, ↓ex_call, ↓AF.ev_func, aFieldAddr, aload, partOf, frame0, g0, g3, g0, g3, g0, g3, g33, g34, g35, g0, g3, g80, g81, g82, g0, g3, g164, g165, g166, g0, g3, g164, g165, g166, g13, hc.box, DJob.row]
 have hnx := Nat.lt_of_lt_of_le hw.lt hw.le
 refine callK.of (wNumsF _ id lo _ _ x.jobs[i].bases hw (by simp only [List.length_append, List.length_cons, List.length_nil, encNum_length, encNums_length, encText_length, encVal_length]; omega) _) ?_
 rintro _ H2 ⟨rfl, p2, hw2, hwr⟩
 have ho := ho.wrote hwr
 have hc := hc.wrote hwr
 have hW := hW.trans hwr
 have hw := hw2
 simp [↓put_at, ↓AF.ev_tmp, ↓ex_cons, ↓ex_nil, ↓ex_move, ↓ex_fieldAddr, ↓ex_load, ↓ex_call, ↓AF.ev_func, aFieldAddr, aload, partOf, frame0, g0, g3, g0, g3, g0, g3, g33, g34, g35, g0, g3, g80, g81, g82, g0, g3, g164, g165, g166, g0, g3, g164, g165, g166, g13, hc.box, DJob.row]
 refine hK41 _ _ ?_
 try clear hK41 K41
 refine T_rg ?_
 simp [↓put_at, ↓AF.ev_tmp, ↓ex_cons, ↓ex_nil, ↓ex_move, ↓ex_fieldAddr, ↓ex_load, ↓ex_call, ↓AF.ev_func, aFieldAddr, aload, partOf, frame0, g0, g3, g0, g3, g0, g3, g33, g34, g35, g0, g3, g80, g81, g82, g0, g3, g164, g165, g166, g0, g3, g164, g165, g166, g13, hc.box, DJob.row]
 have hnx := Nat.lt_of_lt_of_le hw.lt hw.le
 refine callK.of (wNum _ id lo _ _ _ hw (by simp only [List.length_append, List.length_cons, List.length_nil, encNum_length, encNums_length, encText_length, encVal_length]; omega)) ?_
 rintro _ H2 ⟨rfl, p2, hw2, hwr⟩
 have ho := ho.wrote hwr
 have hc := hc.wrote hwr
 have hW := hW.trans hwr
 have hw := hw2
 simp [↓put_at, ↓AF.ev_tmp, ↓ex_cons, ↓ex_nil, ↓ex_move, ↓ex_fieldAddr, ↓ex_load, ↓ex_call, ↓AF.ev_func, aFieldAddr, aload, partOf, frame0, g0, g3, g0, g3, g0, g3, g33, g34, g35, g0, g3, g80, g81, g82, g0, g3, g164, g165, g166, g0, g3, g164, g165, g166, g13, hc.box, DJob.row]
 refine hK36 _ _ ?_
 try clear hK36 K36
 refine T_rg ?_
 simp [↓put_at, ↓AF.ev_tmp, ↓ex_cons, ↓ex_nil, ↓ex_binOp, ↓AF.ev_int, ↓ex_move, aBin, aBinV, frame0, g0, g3, g0, g3, g0, g3, g33, g34, g35, g0, g3, g80, g81, g82, g0, g3, g164, g165, g166, g0, g3, g164, g165, g166, g13]
 refine ⟨x.jobs.length - (i + 1), by omega, i + 1, rfl, by omega, by rw [wrap_i64 (by omega) (by omega)]; rfl, _, ?_, ho, hW⟩
 simpa [flat_take_succ hi, encJob] using hw
 have hge : x.jobs.length ≤ i := by simp at c4; omega
 rw [List.take_of_length_le hge] at hw
 refine T_exit ?_
 try simp only [tE, bE, lE, if_true, Nat.reduceEqDiff, if_false, reduceIte, tN, bN, lN]
 refine owesO_none (.inl rfl) rfl ⟨rfl, p1, ?_, hW⟩
 simpa [encImage] using hw
end Go.Abs
namespace Go.Abs
open Go.Proofs
set_option autoImplicit false
set_option linter.all false
def v32 (c : BitVec 32) : PV := .val (.int .u32 (c.toNat : Int))
@[simp] theorem cells_v32 (c : BitVec 32) : (v32 c).cells = [v32 c] := rfl
@[simp] theorem okCells_v32 (c : BitVec 32) : (v32 c).okCells = true := rfl
@[simp] theorem atomic_v32 (c : BitVec 32) : (v32 c).atomic = true := rfl
@[simp] theorem frozen_v32 (c : BitVec 32) : Frozen (v32 c) := trivial
@[simp] theorem below_v32 (n : Nat) (c : BitVec 32) : Below n (v32 c) := .val _
theorem u32_wrap_toNat (c : BitVec 32) : IntKind.u32.wrap (c.toNat : Int) = c.toNat := by
 have := c.isLt
 unfold IntKind.wrap; simp [IntKind.bits, IntKind.signed]; omega
theorem ofInt_toNat (c : BitVec 32) : BitVec.ofInt 32 (c.toNat : Int) = c := by
 apply BitVec.eq_of_toInt_eq; simp [BitVec.toInt_ofInt, BitVec.toInt_eq_toNat_bmod]
theorem and32 (c : BitVec 32) (b : Int) : aBinV .and (.int .u32 c.toNat) (.int .u32 b) = some (.int .u32 ((c &&& BitVec.ofInt 32 b).toNat : Int)) := by
 show (if IntKind.u32 = IntKind.u32 then some (Value.int .u32 (IntKind.u32.wrap ((BitVec.ofInt 32 (c.toNat : Int) &&& BitVec.ofInt 32 b).toNat : Int))) else none) = _
 rw [if_pos rfl, ofInt_toNat, u32_wrap_toNat]
theorem xor32 (c : BitVec 32) (b : Int) : aBinV .xor (.int .u32 c.toNat) (.int .u32 b) = some (.int .u32 ((c ^^^ BitVec.ofInt 32 b).toNat : Int)) := by
 show (if IntKind.u32 = IntKind.u32 then some (Value.int .u32 (IntKind.u32.wrap ((BitVec.ofInt 32 (c.toNat : Int) ^^^ BitVec.ofInt 32 b).toNat : Int))) else none) = _
 rw [if_pos rfl, ofInt_toNat, u32_wrap_toNat]
theorem shr32 (c : BitVec 32) (k : IntKind) (n : Nat) (hn : n < 32) : aBinV .shr (.int .u32 c.toNat) (.int k (n : Int)) = some (.int .u32 ((c >>> n).toNat : Int)) := by
 show (if 0 ≤ (n : Int) then some (Value.int .u32 ((c.toNat : Int).fdiv (2 ^ min (n : Int).toNat 32))) else none) = _
 rw [if_pos (by omega), show min (n : Int).toNat 32 = n by omega, BitVec.toNat_ushiftRight, Nat.shiftRight_eq_div_pow]
 congr 2
 rw [Int.fdiv_eq_ediv_of_nonneg _ (by have : (0 : Int) < 2 ^ n := Int.pow_pos (by omega)
                                      omega)]
 rw [Int.natCast_ediv, Int.natCast_pow]; rfl
theorem not32 (c : BitVec 32) : aUn .xor (v32 c) = some (v32 (~~~ c)) := by
 show some (PV.val (.int .u32 (IntKind.u32.wrap ((BitVec.ofInt 32 (IntKind.u32.max) ^^^ BitVec.ofInt 32 (c.toNat : Int)).toNat : Int)))) = _
 rw [ofInt_toNat, u32_wrap_toNat]
 rw [show BitVec.ofInt 32 IntKind.u32.max = BitVec.allOnes 32 by decide, BitVec.allOnes_xor]
 rfl
theorem eq32 (k : IntKind) (a b : Int) : aBinV .eql (.int k a) (.int k b) = some (.bool (a == b)) := by simp [aBinV]
theorem xor8 (a b : Nat) (ha : a < 256) (hb : b < 256) : aBinV .xor (.int .u8 (a : Int)) (.int .u8 (b : Int)) = some (.int .u8 ((a ^^^ b : Nat) : Int)) := by
 have hx : a ^^^ b < 2 ^ 8 := Nat.xor_lt_two_pow ha hb
 show (if IntKind.u8 = IntKind.u8 then some (Value.int .u8 (IntKind.u8.wrap ((BitVec.ofInt 8 (a : Int) ^^^ BitVec.ofInt 8 (b : Int)).toNat : Int))) else none) = _
 rw [if_pos rfl]
 congr 2
 rw [BitVec.toNat_xor]
 simp only [BitVec.toNat_ofInt]
 rw [wrap_u8 (by omega) (by
   have e1 : ((a : Int) % ((2 ^ 8 : Nat) : Int)).toNat = a := by omega
   have e2 : ((b : Int) % ((2 ^ 8 : Nat) : Int)).toNat = b := by omega
   rw [e1, e2]; omega)]
 have e1 : ((a : Int) % ((2 ^ 8 : Nat) : Int)).toNat = a := by omega
 have e2 : ((b : Int) % ((2 ^ 8 : Nat) : Int)).toNat = b := by omega
 rw [e1, e2]
theorem u32_wrap_small {i : Nat} (h : i < 256) : IntKind.u32.wrap (i : Int) = (((BitVec.ofNat 32 i).toNat : Nat) : Int) := by
 have e : (BitVec.ofNat 32 i).toNat = i := by rw [BitVec.toNat_ofNat]; omega
 conv => lhs; rw [← e]
 exact u32_wrap_toNat _
theorem bin_and32 (P : Program) (t : TypeId) (c : BitVec 32) (b : Int) : aBin P .and t (v32 c) (.val (.int .u32 b)) = some (v32 (c &&& BitVec.ofInt 32 b)) := by
 show (aBinV .and (.int .u32 c.toNat) (.int .u32 b)).map PV.val = _; rw [and32]; rfl
theorem bin_xor32 (P : Program) (t : TypeId) (c : BitVec 32) (b : Int) : aBin P .xor t (v32 c) (.val (.int .u32 b)) = some (v32 (c ^^^ BitVec.ofInt 32 b)) := by
 show (aBinV .xor (.int .u32 c.toNat) (.int .u32 b)).map PV.val = _; rw [xor32]; rfl
theorem bin_xor32v (P : Program) (t : TypeId) (c d : BitVec 32) : aBin P .xor t (v32 c) (v32 d) = some (v32 (c ^^^ d)) := by
 show (aBinV .xor (.int .u32 c.toNat) (.int .u32 d.toNat)).map PV.val = _; rw [xor32, ofInt_toNat]; rfl
theorem bin_shr32 (P : Program) (t : TypeId) (c : BitVec 32) (k : IntKind) (n : Nat) (hn : n < 32) : aBin P .shr t (v32 c) (.val (.int k (n : Int))) = some (v32 (c >>> n)) := by
 show (aBinV .shr (.int .u32 c.toNat) (.int k n)).map PV.val = _; rw [shr32 c k n hn]; rfl
theorem bin_shr32_1 (P : Program) (t : TypeId) (c : BitVec 32) (k : IntKind) : aBin P .shr t (v32 c) (.val (.int k 1)) = some (v32 (c >>> 1)) := bin_shr32 P t c k 1 (by decide)
theorem bin_shr32_8 (P : Program) (t : TypeId) (c : BitVec 32) (k : IntKind) : aBin P .shr t (v32 c) (.val (.int k 8)) = some (v32 (c >>> 8)) := bin_shr32 P t c k 8 (by decide)
theorem bin_shr32_16 (P : Program) (t : TypeId) (c : BitVec 32) (k : IntKind) : aBin P .shr t (v32 c) (.val (.int k 16)) = some (v32 (c >>> 16)) := bin_shr32 P t c k 16 (by decide)
theorem bin_shr32_24 (P : Program) (t : TypeId) (c : BitVec 32) (k : IntKind) : aBin P .shr t (v32 c) (.val (.int k 24)) = some (v32 (c >>> 24)) := bin_shr32 P t c k 24 (by decide)
theorem bin_eq32_1 (P : Program) (t : TypeId) (c : BitVec 32) : aBin P .eql t (v32 c) (.val (.int .u32 1)) = some (pb (decide (c = 1))) := by
 show (aBinV .eql (.int .u32 c.toNat) (.int .u32 1)).map PV.val = _
 rw [eq32]
 have : ((c.toNat : Int) == 1) = decide (c = 1) := by
   rw [int_beq, decide_eq_decide]
   constructor
   · intro h; apply BitVec.eq_of_toNat_eq; show c.toNat = 1; omega
   · rintro rfl; rfl
 rw [this]; rfl
theorem conv_v32 (n : Nat) (h : n < 256) : aConvert Tryz.prog 3 65 (pi n) = some (v32 (BitVec.ofNat 32 n)) := by
 simp [aConvert, v32]; exact u32_wrap_small h
def crcStep (c : BitVec 32) : BitVec 32 := if c &&& 1 = 1 then (c >>> 1) ^^^ 0xedb88320 else c >>> 1
theorem crcStep_pos {c : BitVec 32} (h : c &&& 1 = 1) : crcStep c = (c >>> 1) ^^^ 0xedb88320 := if_pos h
theorem crcStep_neg {c : BitVec 32} (h : ¬ c &&& 1 = 1) : crcStep c = c >>> 1 := if_neg h
def rep (f : BitVec 32 → BitVec 32) : Nat → BitVec 32 → BitVec 32
  | 0, c => c
  | n + 1, c => f (rep f n c)
def tabOf (i : Nat) : BitVec 32 := rep crcStep 8 (BitVec.ofNat 32 i)
def tabTo (i : Nat) : List PV := (List.range 256).map fun m => if m < i then v32 (tabOf m) else .val (.int .u32 0)
def tabRow : List PV := (List.range 256).map fun m => v32 (tabOf m)
theorem tabTo_zero : zeros256 = tabTo 0 := by kernel_rfl
theorem tabTo_all : tabTo 256 = tabRow := by
 unfold tabTo tabRow
 apply List.map_congr_left
 intro m hm
 rw [if_pos (by simpa using hm)]
@[simp] theorem tabTo_length (i : Nat) : (tabTo i).length = 256 := by simp [tabTo]
@[simp] theorem tabRow_length : tabRow.length = 256 := by simp [tabRow]
theorem tabTo_succ {i : Nat} (h : i < 256) : splice (tabTo i) i [v32 (tabOf i)] = tabTo (i + 1) := by
 apply List.ext_getElem?
 intro m
 unfold splice
 rw [List.getElem?_append, List.getElem?_append]
 simp only [tabTo, List.length_take, List.length_map, List.length_range, List.length_append, List.length_cons, List.length_nil, List.getElem?_take, List.getElem?_map, List.getElem?_drop]
 by_cases h1 : m < i
 have h256 : m < 256 := by omega
 simp [h1, h256, Nat.min_eq_left (Nat.le_of_lt h), show m < i + 1 by omega, List.getElem?_range h256]
 by_cases h2 : m = i
 subst h2
 simp [Nat.min_eq_left (Nat.le_of_lt h), List.getElem?_range h]
 have h3 : ¬ m < i + 1 := by omega
 have h4 : ∀ o : Option Nat, (∀ q, o = some q → q = m) → Option.map (fun m => if m < i then v32 (tabOf m) else PV.val (Value.int IntKind.u32 0)) o = Option.map (fun m => if m < i + 1 then v32 (tabOf m) else PV.val (Value.int IntKind.u32 0)) o := by
   rintro (_ | q) hq
   · rfl
   · have := hq q rfl; subst this; simp [h1, h3]
 simp only [Nat.min_eq_left (Nat.le_of_lt h), h1, h3, if_false, show i + (0 + 1) + (m - (i + (0 + 1))) = m by omega, show ¬ m < i + (0 + 1) by omega]
 refine h4 _ fun q hq => ?_
 by_cases hm : m < 256
 rw [List.getElem?_range hm] at hq; exact (Option.some.inj hq).symm
 rw [List.getElem?_eq_none (by simp; omega)] at hq; cases hq
set_option maxRecDepth 100000 in
theorem tableIs (H : AS)  : ACalls Tryz.prog 50 [] H fun q H' => q = .agg tabRow ∧ H' = H := by
 refine ACalls_intro Tryz.func50 rfl (by kernel_rfl) (by simp) fun hwf hbel => ?_
 refine T_sr fun K0 hK0 => ?_
 simp [↓put_at, ↓AF.ev_tmp, ↓ex_cons, ↓ex_nil, ↓ex_alloc, aalloc, frame0]
 refine hK0 _ _ ?_
 try clear hK0 K0
 refine T_sr fun K1 hK1 => ?_
 simp [↓put_at, ↓AF.ev_tmp, ↓ex_cons, ↓ex_nil, ↓ex_alloc, aalloc, frame0]
 refine hK1 _ _ ?_
 try clear hK1 K1
 refine T_seqk fun K2 hK2 => ?_
 refine T_sr fun K3 hK3 => ?_
 simp [↓put_at, ↓AF.ev_tmp, ↓ex_cons, ↓ex_nil, ↓ex_move, ↓AF.ev_int, frame0]
 refine hK3 _ _ ?_
 try clear hK3 K3
 refine T_block ?_
 refine T_loop (fun k F H' => ∃ i : Nat, k = 256 - i ∧ i ≤ 256 ∧ F 0 = .ptr H.next 1 0 0 ∧ F 1 = .ptr (H.next + 1) 1 0 0 ∧ F 5 = pi i ∧ H'.box H.next = some [zeros256] ∧ H'.box (H.next + 1) = some [tabTo i] ∧ H.Ext H' ∧ H'.next = H.next + 2) (256) ?_ ?_
 refine ⟨0, ?_⟩
 simp [frame0, tabTo_zero]
 exact .bump (.setBox (by simp) (.bump (.setBox (Nat.le_refl _) (.refl _))))
 rintro k F H1 ⟨i, rfl, hile, g0, g1, g5, b0, b1, hext, hn⟩
 refine T_sr fun K4 hK4 => ?_
 simp [↓put_at, ↓AF.ev_tmp, ↓ex_cons, ↓ex_nil, ↓ex_binOp, ↓AF.ev_int, aBin, aBinV, frame0, g0, g1, g5]
 refine hK4 _ _ ?_
 try clear hK4 K4
 refine T_seqk fun K5 hK5 => ?_
 refine T_cond (rfl) (fun c0 => ?_) (fun c0 => ?_)
 have hlt : i < 256 := by simp at c0; omega
 have hlt2 : (i : Int) < 256 := by omega
 have hlt3 : i ≤ 255 := by omega
 refine T_skip ?_
 simp only [thenK_normal, blockT_normal, loopT_normal]
 refine hK5 _ _ ?_
 try clear hK5 K5
 refine T_seqk fun K6 hK6 => ?_
 refine T_block ?_
 refine T_sr fun K7 hK7 => ?_
 simp [↓put_at, ↓AF.ev_tmp, ↓ex_cons, ↓ex_nil, ↓ex_move, ↓ex_assign, frame0, g0, g1, g5]
 refine hK7 _ _ ?_
 try clear hK7 K7
 refine T_sr fun K8 hK8 => ?_
 simp [↓put_at, ↓AF.ev_tmp, ↓ex_cons, ↓ex_nil, ↓ex_move, ↓ex_convert, ↓ex_assign, frame0, g0, g1, g5, conv_v32 i hlt]
 refine hK8 _ _ ?_
 try clear hK8 K8
 refine T_seqk fun K9 hK9 => ?_
 refine T_sr fun K10 hK10 => ?_
 simp [↓put_at, ↓AF.ev_tmp, ↓ex_cons, ↓ex_nil, ↓ex_move, ↓AF.ev_int, frame0, g0, g1, g5]
 refine hK10 _ _ ?_
 try clear hK10 K10
 refine T_block ?_
 refine T_loop (fun k F H' => ∃ j : Nat, k = 8 - j ∧ j ≤ 8 ∧ F 0 = .ptr H.next 1 0 0 ∧ F 1 = .ptr (H.next + 1) 1 0 0 ∧ F 5 = pi i ∧ F 2 = pi i ∧ F 10 = pi j ∧ F 3 = v32 (rep crcStep j (BitVec.ofNat 32 i)) ∧ H' = H1) (8) ?_ ?_
 refine ⟨0, ?_⟩
 simp [g0, g1, g5, rep]
 rintro k F H2 ⟨j, rfl, hjle, g0, g1, g5, g2, g10, g3, rfl⟩
 refine T_sr fun K11 hK11 => ?_
 simp [↓put_at, ↓AF.ev_tmp, ↓ex_cons, ↓ex_nil, ↓ex_binOp, ↓AF.ev_int, aBin, aBinV, frame0, g0, g1, g5, g0, g1, g5, g2, g10, g3]
 refine hK11 _ _ ?_
 try clear hK11 K11
 refine T_seqk fun K12 hK12 => ?_
 refine T_cond (rfl) (fun c1 => ?_) (fun c1 => ?_)
 have hj8 : j < 8 := by simp at c1; omega
 refine T_skip ?_
 simp only [thenK_normal, blockT_normal, loopT_normal]
 refine hK12 _ _ ?_
 try clear hK12 K12
 refine T_seqk fun K13 hK13 => ?_
 refine T_block ?_
 refine T_sr fun K14 hK14 => ?_
 simp [↓put_at, ↓AF.ev_tmp, ↓ex_cons, ↓ex_nil, ↓ex_move, ↓ex_binOp, ↓AF.ev_int, ↓ex_assign, frame0, g0, g1, g5, g0, g1, g5, g2, g10, g3, bin_and32, bin_eq32_1]
 refine hK14 _ _ ?_
 try clear hK14 K14
 refine T_sr fun K15 hK15 => ?_
 simp [↓put_at, ↓AF.ev_tmp, ↓ex_cons, ↓ex_nil, ↓ex_move, ↓ex_binOp, ↓AF.ev_int, ↓ex_assign, frame0, g0, g1, g5, g0, g1, g5, g2, g10, g3, bin_shr32_1]
 refine hK15 _ _ ?_
 try clear hK15 K15
 refine T_sr fun K16 hK16 => ?_
 simp [↓put_at, ↓AF.ev_tmp, ↓ex_cons, ↓ex_nil, ↓ex_move, frame0, g0, g1, g5, g0, g1, g5, g2, g10, g3]
 refine hK16 _ _ ?_
 try clear hK16 K16
 refine T_cond (rfl) (fun c2 => ?_) (fun c2 => ?_)
 refine T_rg ?_
 simp [↓put_at, ↓AF.ev_tmp, ↓ex_cons, ↓ex_nil, ↓ex_move, ↓ex_binOp, ↓AF.ev_int, ↓ex_assign, frame0, g0, g1, g5, g0, g1, g5, g2, g10, g3, bin_xor32]
 refine hK13 _ _ ?_
 try clear hK13 K13
 refine T_rg ?_
 simp [↓put_at, ↓AF.ev_tmp, ↓ex_cons, ↓ex_nil, ↓ex_binOp, ↓AF.ev_int, ↓ex_move, aBin, aBinV, frame0, g0, g1, g5, g0, g1, g5, g2, g10, g3]
 refine ⟨8 - (j + 1), by omega, j + 1, rfl, by omega, by rw [wrap_i64 (by omega) (by omega)]; rfl, ?_⟩
 show _ = v32 (crcStep (rep crcStep j (BitVec.ofNat 32 i)))
 first | rw [crcStep_pos (of_decide_eq_true c2)]; rfl | rw [crcStep_neg (of_decide_eq_false c2)]
 refine T_skip ?_
 simp only [thenK_normal, blockT_normal, loopT_normal]
 refine hK13 _ _ ?_
 try clear hK13 K13
 refine T_rg ?_
 simp [↓put_at, ↓AF.ev_tmp, ↓ex_cons, ↓ex_nil, ↓ex_binOp, ↓AF.ev_int, ↓ex_move, aBin, aBinV, frame0, g0, g1, g5, g0, g1, g5, g2, g10, g3]
 refine ⟨8 - (j + 1), by omega, j + 1, rfl, by omega, by rw [wrap_i64 (by omega) (by omega)]; rfl, ?_⟩
 show _ = v32 (crcStep (rep crcStep j (BitVec.ofNat 32 i)))
 first | rw [crcStep_pos (of_decide_eq_true c2)]; rfl | rw [crcStep_neg (of_decide_eq_false c2)]
 have hj8 : j = 8 := by simp at c1; omega
 subst hj8
 refine T_exit ?_
 try simp only [tE, bE, lE, if_true, Nat.reduceEqDiff, if_false, reduceIte, tN, bN, lN]
 refine hK9 _ _ ?_
 try clear hK9 K9
 refine T_rg ?_
 simp [↓put_at, ↓AF.ev_tmp, ↓ex_cons, ↓ex_nil, ↓ex_move, ↓ex_indexAddr, ↓ex_store, aIndexAddr, astore, frame0, g0, g1, g5, g0, g1, g5, g2, g10, g3, aIndexAddr, b1, hlt2, hlt3]
 refine hK6 _ _ ?_
 try clear hK6 K6
 refine T_rg ?_
 simp [↓put_at, ↓AF.ev_tmp, ↓ex_cons, ↓ex_nil, ↓ex_binOp, ↓AF.ev_int, ↓ex_move, aBin, aBinV, frame0, g0, g1, g5, g0, g1, g5, g2, g10, g3]
 refine ⟨256 - (i + 1), by omega, i + 1, rfl, by omega, by rw [wrap_i64 (by omega) (by omega)]; rfl, b0, tabTo_succ hlt, .setBox (by omega) hext, hn⟩
 have hge : i = 256 := by simp at c0; omega
 subst hge
 refine T_exit ?_
 try simp only [tE, bE, lE, if_true, Nat.reduceEqDiff, if_false, reduceIte, tN, bN, lN]
 refine hK2 _ _ ?_
 try clear hK2 K2
 refine T_sr fun K17 hK17 => ?_
 simp [↓put_at, ↓AF.ev_tmp, ↓ex_cons, ↓ex_nil, ↓ex_load, ↓ex_store, aload, partOf, astore, frame0, g0, g1, g5, b0, b1]
 refine hK17 _ _ ?_
 try clear hK17 K17
 refine T_ret ?_
 try simp only [tR, bR, lR]
 have e : splice zeros256 0 (List.take 256 (tabTo 256)) = tabRow := by
   rw [List.take_of_length_le (by simp), tabTo_all]; unfold splice; rw [List.drop_eq_nil_of_le (by simp)]; simp
 rw [e]
 refine owes_one (.inr rfl) hwf (r := .agg tabRow) (by rw [show Tryz.f50.results.toList = [.cell 0 98] from rfl]; simp [aResults, aload, partOf, g0, g1, List.take_of_length_le]) rfl (.setBox (Nat.le_refl _) hext) ?_ ?_
 exact ⟨fun cs h x hx => by cases h; obtain ⟨m, _, rfl⟩ := List.mem_map.1 hx; exact frozen_v32 _, trivial⟩
 exact .agg fun x hx => by obtain ⟨m, _, rfl⟩ := List.mem_map.1 hx; exact below_v32 _ _
end Go.Abs
namespace Go.Abs
open Go.Proofs
set_option autoImplicit false
set_option linter.all false
def b8 (b : UInt8) : PV := .val (.int .u8 (b.toNat : Int))
theorem brow_b8 (b : UInt8) : brow b = [b8 b] := rfl
@[simp] theorem cells_b8 (b : UInt8) : (b8 b).cells = [b8 b] := rfl
@[simp] theorem okCells_b8 (b : UInt8) : (b8 b).okCells = true := rfl
@[simp] theorem atomic_b8 (b : UInt8) : (b8 b).atomic = true := rfl
@[simp] theorem frozen_b8 (b : UInt8) : Frozen (b8 b) := trivial
@[simp] theorem below_b8 (n : Nat) (b : UInt8) : Below n (b8 b) := .val _
@[simp] theorem v32_agg (c : BitVec 32) (cs : List PV) : (v32 c = PV.agg cs) = False := by simp [v32]
@[simp] theorem b8_agg (b : UInt8) (cs : List PV) : (b8 b = PV.agg cs) = False := by simp [b8]
theorem build4 (a b c d : UInt8) : aBuild Tryz.prog 100 [(0, b8 a), (1, b8 b), (2, b8 c), (3, b8 d)] = some (.agg [b8 a, b8 b, b8 c, b8 d]) := by
 have h : Tryz.prog.underlying 100 = some (.array 4 5) := by kernel_rfl
 simp [aBuild, h, aBuild.go, arrFields, splice, Array.range]
 exact ⟨by decide, rfl⟩
theorem part_byte (b : UInt8) : partOf Tryz.prog 5 (brow b) 0 = some (b8 b) := by simp [partOf, brow, b8]
def lowByte (c : BitVec 32) : UInt8 := UInt8.ofNat c.toNat
def xorByte (a b : UInt8) : UInt8 := a ^^^ b
theorem conv_b8 (c : BitVec 32) : aConvert Tryz.prog 65 5 (v32 c) = some (b8 (lowByte c)) := by
 unfold lowByte
 simp [aConvert, v32, b8]
 rw [u8_wrap, show byteOf (c.toNat : Int) = UInt8.ofNat c.toNat from UInt8.toNat_inj.1 (by unfold byteOf; rw [UInt8.toNat_ofNat', UInt8.toNat_ofNat']; omega)]
 rfl
theorem bin_xor8 (P : Program) (t : TypeId) (a b : UInt8) : aBin P .xor t (b8 a) (b8 b) = some (b8 (xorByte a b)) := by
 unfold xorByte
 show (aBinV .xor (.int .u8 a.toNat) (.int .u8 b.toNat)).map PV.val = _
 rw [xor8 _ _ a.toNat_lt b.toNat_lt, ← UInt8.toNat_xor]; rfl
theorem idx_tab (id : Nat) (x : UInt8) : aIndexAddr Tryz.prog 98 (.ptr id 1 0 0) (b8 x) = some (.ptr id 1 0 x.toNat) := by
 have := x.toNat_lt
 simp [aIndexAddr, b8]; omega
theorem load_tab {H : AS} {id : Nat} (h : H.box id = some [tabRow]) (x : UInt8) : aload Tryz.prog H 65 (.ptr id 1 0 x.toNat) = some (v32 (tabOf x.toNat)) := by
 have := x.toNat_lt
 have e : tabRow[x.toNat]? = some (v32 (tabOf x.toNat)) := by unfold tabRow; rw [List.getElem?_map, List.getElem?_range (by omega)]; rfl
 simp [aload, h, partOf, e]
def crcNext (c : BitVec 32) (x : UInt8) : BitVec 32 := (c >>> 8) ^^^ tabOf (xorByte (lowByte c) x).toNat
def crcFold (bs : List UInt8) : BitVec 32 := bs.foldl crcNext (BitVec.allOnes 32)
def crc (bs : List UInt8) : BitVec 32 := ~~~ crcFold bs
theorem crcFold_take {bs : List UInt8} {i : Nat} (h : i < bs.length) : crcFold (bs.take (i + 1)) = crcNext (crcFold (bs.take i)) bs[i] := by
 unfold crcFold; rw [List.take_succ_eq_append_getElem h, List.foldl_append]; rfl
theorem splice_tab : splice zeros256 0 tabRow = tabRow := by unfold splice; rw [List.drop_eq_nil_of_le (by simp)]; simp
set_option maxRecDepth 100000 in
theorem sumFrozen (H : AS) (bs : List UInt8) (hb : bs.length < 2 ^ 62) (c : Nat) : ACalls Tryz.prog 18 [PV.sl c 1 (bs.map brow)] H fun q H' => q = v32 (crc bs) ∧ H' = H := by
 refine ACalls_intro Tryz.func18 rfl (by kernel_rfl) (by simp) fun hwf hbel => ?_
 refine T_sr fun K0 hK0 => ?_
 simp [↓put_at, ↓AF.ev_tmp, ↓ex_cons, ↓ex_nil, ↓ex_assign, ↓AF.ev_int, frame0]
 refine hK0 _ _ ?_
 try clear hK0 K0
 refine T_sr fun K1 hK1 => ?_
 simp [↓put_at, ↓AF.ev_tmp, ↓ex_cons, ↓ex_nil, ↓ex_call, ↓AF.ev_func, ↓ex_alloc, ↓ex_store, aalloc, astore, frame0, splice_tab]
 refine callK.of (tableIs _) ?_
 rintro _ Hz ⟨rfl, hz⟩
 subst Hz
 simp [↓put_at, ↓AF.ev_tmp, ↓ex_cons, ↓ex_nil, ↓ex_call, ↓AF.ev_func, ↓ex_alloc, ↓ex_store, aalloc, astore, frame0, splice_tab]
 refine hK1 _ _ ?_
 try clear hK1 K1
 refine T_sr fun K2 hK2 => ?_
 simp [↓put_at, ↓AF.ev_tmp, ↓ex_cons, ↓ex_nil, ↓ex_assign, ↓AF.ev_int, frame0]
 refine hK2 _ _ ?_
 try clear hK2 K2
 refine T_seqk fun K3 hK3 => ?_
 refine T_sr fun K4 hK4 => ?_
 simp [↓put_at, ↓AF.ev_tmp, ↓ex_cons, ↓ex_nil, ↓ex_move, ↓ex_len, ↓AF.ev_int, aLen, frame0]
 refine hK4 _ _ ?_
 try clear hK4 K4
 refine T_block ?_
 refine T_loop (fun k F H' => ∃ i : Nat, k = bs.length - i ∧ i ≤ bs.length ∧ F 3 = .ptr H.next 1 0 0 ∧ F 8 = PV.sl c 1 (bs.map brow) ∧ F 9 = pi bs.length ∧ F 10 = pi i ∧ F 4 = v32 (crcFold (bs.take i)) ∧ H'.box H.next = some [tabRow] ∧ H.Ext H') (bs.length) ?_ ?_
 refine ⟨0, ?_⟩
 simp [frame0]
 exact ⟨rfl, .setBox (Nat.le_refl _) (.bump (.setBox (Nat.le_refl _) (.refl _)))⟩
 rintro k F H1 ⟨i, rfl, hile, g3, g8, g9, g10, g4, b3, hext⟩
 refine T_sr fun K5 hK5 => ?_
 simp [↓put_at, ↓AF.ev_tmp, ↓ex_cons, ↓ex_nil, ↓ex_binOp, aBin, aBinV, frame0, g3, g8, g9, g10, g4]
 refine hK5 _ _ ?_
 try clear hK5 K5
 refine T_seqk fun K6 hK6 => ?_
 refine T_cond (rfl) (fun c0 => ?_) (fun c0 => ?_)
 have hlt : i < bs.length := by simp at c0; omega
 refine T_skip ?_
 simp only [thenK_normal, blockT_normal, loopT_normal]
 refine hK6 _ _ ?_
 try clear hK6 K6
 refine T_seqk fun K7 hK7 => ?_
 refine T_block ?_
 refine T_sr fun K8 hK8 => ?_
 simp [↓put_at, ↓AF.ev_tmp, ↓ex_cons, ↓ex_nil, ↓ex_indexAddr, ↓ex_load, ↓ex_assign, aIndexAddr, aload, frame0, g3, g8, g9, g10, g4, aIndexAddr, part_byte, sl_get (map_get (f := brow) hlt)]
 refine hK8 _ _ ?_
 try clear hK8 K8
 refine T_rg ?_
 simp [↓put_at, ↓AF.ev_tmp, ↓ex_cons, ↓ex_nil, ↓ex_move, ↓ex_binOp, ↓AF.ev_int, ↓ex_convert, ↓ex_indexAddr, ↓ex_load, ↓ex_assign, frame0, g3, g8, g9, g10, g4, bin_shr32_8, conv_b8, bin_xor8, idx_tab, load_tab b3, bin_xor32v]
 refine hK7 _ _ ?_
 try clear hK7 K7
 refine T_rg ?_
 simp [↓put_at, ↓AF.ev_tmp, ↓ex_cons, ↓ex_nil, ↓ex_binOp, ↓AF.ev_int, ↓ex_move, aBin, aBinV, frame0, g3, g8, g9, g10, g4]
 refine ⟨bs.length - (i + 1), by omega, i + 1, rfl, by omega, by rw [wrap_i64 (by omega) (by omega)]; rfl, ?_, b3, hext⟩
 rw [crcFold_take hlt]; rfl
 have hge : bs.length ≤ i := by simp at c0; omega
 refine T_exit ?_
 try simp only [tE, bE, lE, if_true, Nat.reduceEqDiff, if_false, reduceIte, tN, bN, lN]
 refine hK3 _ _ ?_
 try clear hK3 K3
 refine T_sr fun K9 hK9 => ?_
 simp [↓put_at, ↓AF.ev_tmp, ↓ex_cons, ↓ex_nil, ↓ex_move, ↓ex_unOp, ↓ex_assign, frame0, g3, g8, g9, g10, g4, not32]
 refine hK9 _ _ ?_
 try clear hK9 K9
 refine T_ret ?_
 try simp only [tR, bR, lR]
 rw [List.take_of_length_le hge]
 refine owes_one (.inr rfl) hwf rfl (by simp; rfl) hext (by simp) (by simp)
set_option maxRecDepth 100000 in
theorem sumMsl (H : AS) (bs : List UInt8) (hb : bs.length < 2 ^ 62) (j : Nat) (hj : H.box j = some (bs.map brow)) : ACalls Tryz.prog 18 [.msl j bs.length 1] H fun q H' => q = v32 (crc bs) ∧ H' = H := by
 refine ACalls_intro Tryz.func18 rfl (by kernel_rfl) (by simp) fun hwf hbel => ?_
 have hbj : ∀ {H1 : AS}, H.Ext H1 → H1.box j = some (bs.map brow) := fun he => by rw [he.box j (hwf.box _ _ hj).1]; exact hj
 refine T_sr fun K0 hK0 => ?_
 simp [↓put_at, ↓AF.ev_tmp, ↓ex_cons, ↓ex_nil, ↓ex_assign, ↓AF.ev_int, frame0]
 refine hK0 _ _ ?_
 try clear hK0 K0
 refine T_sr fun K1 hK1 => ?_
 simp [↓put_at, ↓AF.ev_tmp, ↓ex_cons, ↓ex_nil, ↓ex_call, ↓AF.ev_func, ↓ex_alloc, ↓ex_store, aalloc, astore, frame0, splice_tab]
 refine callK.of (tableIs _) ?_
 rintro _ Hz ⟨rfl, hz⟩
 subst Hz
 simp [↓put_at, ↓AF.ev_tmp, ↓ex_cons, ↓ex_nil, ↓ex_call, ↓AF.ev_func, ↓ex_alloc, ↓ex_store, aalloc, astore, frame0, splice_tab]
 refine hK1 _ _ ?_
 try clear hK1 K1
 refine T_sr fun K2 hK2 => ?_
 simp [↓put_at, ↓AF.ev_tmp, ↓ex_cons, ↓ex_nil, ↓ex_assign, ↓AF.ev_int, frame0]
 refine hK2 _ _ ?_
 try clear hK2 K2
 refine T_seqk fun K3 hK3 => ?_
 refine T_sr fun K4 hK4 => ?_
 simp [↓put_at, ↓AF.ev_tmp, ↓ex_cons, ↓ex_nil, ↓ex_move, ↓ex_len, ↓AF.ev_int, aLen, frame0]
 refine hK4 _ _ ?_
 try clear hK4 K4
 refine T_block ?_
 refine T_loop (fun k F H' => ∃ i : Nat, k = bs.length - i ∧ i ≤ bs.length ∧ F 3 = .ptr H.next 1 0 0 ∧ F 8 = .msl j bs.length 1 ∧ F 9 = pi bs.length ∧ F 10 = pi i ∧ F 4 = v32 (crcFold (bs.take i)) ∧ H'.box H.next = some [tabRow] ∧ H.Ext H') (bs.length) ?_ ?_
 refine ⟨0, ?_⟩
 simp [frame0]
 exact ⟨rfl, .setBox (Nat.le_refl _) (.bump (.setBox (Nat.le_refl _) (.refl _)))⟩
 rintro k F H1 ⟨i, rfl, hile, g3, g8, g9, g10, g4, b3, hext⟩
 refine T_sr fun K5 hK5 => ?_
 simp [↓put_at, ↓AF.ev_tmp, ↓ex_cons, ↓ex_nil, ↓ex_binOp, aBin, aBinV, frame0, g3, g8, g9, g10, g4]
 refine hK5 _ _ ?_
 try clear hK5 K5
 refine T_seqk fun K6 hK6 => ?_
 refine T_cond (rfl) (fun c0 => ?_) (fun c0 => ?_)
 have hlt : i < bs.length := by simp at c0; omega
 refine T_skip ?_
 simp only [thenK_normal, blockT_normal, loopT_normal]
 refine hK6 _ _ ?_
 try clear hK6 K6
 refine T_seqk fun K7 hK7 => ?_
 refine T_block ?_
 refine T_sr fun K8 hK8 => ?_
 simp [↓put_at, ↓AF.ev_tmp, ↓ex_cons, ↓ex_nil, ↓ex_indexAddr, ↓ex_load, ↓ex_assign, aIndexAddr, aload, frame0, g3, g8, g9, g10, g4, aIndexAddr, part_byte, amsl hlt, hbj hext, List.getElem?_eq_getElem hlt]
 refine hK8 _ _ ?_
 try clear hK8 K8
 refine T_rg ?_
 simp [↓put_at, ↓AF.ev_tmp, ↓ex_cons, ↓ex_nil, ↓ex_move, ↓ex_binOp, ↓AF.ev_int, ↓ex_convert, ↓ex_indexAddr, ↓ex_load, ↓ex_assign, frame0, g3, g8, g9, g10, g4, bin_shr32_8, conv_b8, bin_xor8, idx_tab, load_tab b3, bin_xor32v]
 refine hK7 _ _ ?_
 try clear hK7 K7
 refine T_rg ?_
 simp [↓put_at, ↓AF.ev_tmp, ↓ex_cons, ↓ex_nil, ↓ex_binOp, ↓AF.ev_int, ↓ex_move, aBin, aBinV, frame0, g3, g8, g9, g10, g4]
 refine ⟨bs.length - (i + 1), by omega, i + 1, rfl, by omega, by rw [wrap_i64 (by omega) (by omega)]; rfl, ?_, b3, hext⟩
 rw [crcFold_take hlt]; rfl
 have hge : bs.length ≤ i := by simp at c0; omega
 refine T_exit ?_
 try simp only [tE, bE, lE, if_true, Nat.reduceEqDiff, if_false, reduceIte, tN, bN, lN]
 refine hK3 _ _ ?_
 try clear hK3 K3
 refine T_sr fun K9 hK9 => ?_
 simp [↓put_at, ↓AF.ev_tmp, ↓ex_cons, ↓ex_nil, ↓ex_move, ↓ex_unOp, ↓ex_assign, frame0, g3, g8, g9, g10, g4, not32]
 refine hK9 _ _ ?_
 try clear hK9 K9
 refine T_ret ?_
 try simp only [tR, bR, lR]
 rw [List.take_of_length_le hge]
 refine owes_one (.inr rfl) hwf rfl (by simp; rfl) hext (by simp) (by simp)
set_option maxRecDepth 100000 in
theorem littleIs (H : AS) (c : BitVec 32) : ACalls Tryz.prog 51 [v32 c] H fun q H' => q = .agg [b8 (lowByte c), b8 (lowByte (c >>> 8)), b8 (lowByte (c >>> 16)), b8 (lowByte (c >>> 24))] ∧ H' = H := by
 refine ACalls_intro Tryz.func51 rfl (by kernel_rfl) (by simp) fun hwf hbel => ?_
 refine T_sr fun K0 hK0 => ?_
 simp [↓put_at, ↓AF.ev_tmp, ↓ex_cons, ↓ex_nil, ↓ex_alloc, aalloc, frame0]
 refine hK0 _ _ ?_
 try clear hK0 K0
 refine T_sr fun K1 hK1 => ?_
 simp [↓put_at, ↓AF.ev_tmp, ↓ex_cons, ↓ex_nil, ↓ex_move, ↓ex_convert, ↓ex_binOp, ↓AF.ev_int, ↓ex_build, ↓ex_store, splice, astore, frame0, bin_shr32_8, bin_shr32_16, bin_shr32_24, conv_b8, build4]
 refine hK1 _ _ ?_
 try clear hK1 K1
 refine T_ret ?_
 try simp only [tR, bR, lR]
 refine owes_one (.inr rfl) hwf (by rw [show Tryz.f51.results.toList = [.cell 2 100] from rfl]; simp [aResults, aload, partOf]) rfl (.setBox (Nat.le_refl _) (.bump (.setBox (Nat.le_refl _) (.refl _)))) (by simp) (by simp)
end Go.Abs
namespace Go.Abs
open Go.Proofs
set_option autoImplicit false
set_option linter.all false
structure RS where
  at' : Nat
  e : Int
  of : Int
def rrow (bs : List UInt8) (c : Nat) (s : RS) : List PV := [PV.sl c 1 (bs.map brow), pi s.at', pi s.e, pi s.of]
structure RdOk (H : AS) (id : Nat) (bs : List UInt8) (c : Nat) (s : RS) : Prop where
  box : H.box id = some [rrow bs c s]
  le : s.at' ≤ bs.length
  small : bs.length < 2 ^ 40
def rdRefuse (a e : Int) (s : RS) : RS := if s.e = 0 then { s with e := e, of := a } else s
def m8 (n : Nat) : Nat := min n 8
def rdTake (bs : List UInt8) (n : Nat) (s : RS) : List UInt8 × RS :=
  if s.e = 0 then if bs.length < s.at' + n then (List.replicate (m8 n) 0, { s with e := 2, of := bs.length }) else ((bs.drop s.at').take n, { s with at' := s.at' + n }) else (List.replicate (m8 n) 0, s)
def rdByte (bs : List UInt8) (s : RS) : Int × RS := ((((rdTake bs 1 s).1.head?.getD 0).toNat : Int), (rdTake bs 1 s).2)
theorem owes_one_at {P : Program} {H H1 : AS} {fn : Func} {r q : PV} {F' : AF} {H' : AS} {e : Exit} (he : e = .normal ∨ e = .ret) (hwf : WF H1) (hn : H.next ≤ H1.next) (hr : aResults P F' H' fn.results.toList = some [r]) (hq : r = q)
    (hext : H1.Ext H') (hf : (∀ cs, r = .agg cs → ∀ x ∈ cs, Frozen x) ∧ Frozen r) (hb : Below H1.next r) : Owes P fn H (fun r H'' => r = q ∧ H'' = H1) e F' H' := by
 subst hq
 refine ⟨he, ?_⟩
 rw [hr]
 refine ⟨H1, hn, ?_, hwf, ?_, ?_, rfl⟩ <;> simp [frzVs, frzV_one hf, packed]
 exact hext
 exact hb
theorem owes_none_at {P : Program} {H H1 : AS} {fn : Func} {F' : AF} {H' : AS} {e : Exit} (he : e = .normal ∨ e = .ret) (hwf : WF H1) (hn : H.next ≤ H1.next) (hr : aResults P F' H' fn.results.toList = some [])
    (hext : H1.Ext H') : Owes P fn H (fun r H'' => r = .tuple [] ∧ H'' = H1) e F' H' := by
 refine ⟨he, ?_⟩
 rw [hr]
 exact ⟨H1, hn, by simpa [frzVs] using hext, hwf, by simp [frzVs], rfl, rfl⟩
theorem owes_out_at {P : Program} {H H1 : AS} {fn : Func} {p : PV} {F' : AF} {H' : AS} {e : Exit} {lo sz : Nat} {rows : List (List PV)} (he : e = .normal ∨ e = .ret) (hwf : WF H1) (hn : H.next ≤ H1.next) (hr : aResults P F' H' fn.results.toList = some [p])
    (hout : OutIs lo H' p sz rows) (hlo : H1.next ≤ lo) (hext : H1.Ext H') (hb : ∀ r ∈ rows, ∀ p ∈ r, Below H1.next p) : Owes P fn H (fun r H'' => r = PV.sl H1.color sz rows ∧ H'' = H1) e F' H' := by
 obtain ⟨H2, hf, hab⟩ := frz_out hout
 have hv : frzV H' p = (PV.sl H'.color sz rows, H2) := by
   rcases hout with ⟨rfl, rfl⟩ | ⟨id, hid, hlt, rfl, hbox⟩ <;> exact hf
 refine ⟨he, ?_⟩
 rw [hr]
 refine ⟨H1, hn, ?_, hwf, ?_, ?_, rfl⟩ <;> simp [frzVs, hv, packed]
 exact hab H1 hlo hext
 exact hb
 rw [hext.color]
theorem WF.set {H : AS} {id : Nat} {row row' : List PV} (hwf : WF H) (hb : H.box id = some [row]) (h : ∀ p ∈ row', Below H.next p) : WF (H.setBox id [row']) := by
 refine ⟨fun j rows hj => ?_, hwf.mp⟩
 rw [box_setBox] at hj
 split at hj
 rename_i e; subst e; cases hj
 exact ⟨(hwf.box _ _ hb).1, fun r hr p hp => by rw [List.mem_singleton] at hr; subst hr; exact h p hp⟩
 exact hwf.box j rows hj
theorem below_rrow (n : Nat) (bs : List UInt8) (c : Nat) (s : RS) : ∀ p ∈ rrow bs c s, Below n p := by
 simp [rrow, brow, Below]
theorem RdOk.wf {H : AS} {id : Nat} {bs : List UInt8} {c : Nat} {s : RS} (h : RdOk H id bs c s) (hwf : WF H) (s' : RS) : WF (H.setBox id [rrow bs c s']) := hwf.set h.box (below_rrow _ _ _ _)
theorem RdOk.lt {H : AS} {id : Nat} {bs : List UInt8} {c : Nat} {s : RS} (h : RdOk H id bs c s) (hwf : WF H) : id < H.next := (hwf.box _ _ h.box).1
theorem RdOk.same {H : AS} {id : Nat} {bs : List UInt8} {c : Nat} {s : RS} (h : RdOk H id bs c s) : H.setBox id [rrow bs c s] = H := by
 cases H; simp only [AS.setBox, AS.mk.injEq, and_true]
 funext i
 split
 rename_i e; subst e; exact h.box.symm
 rfl
theorem setBox_setBox {H : AS} {id : Nat} {r s : List (List PV)} : (H.setBox id r).setBox id s = H.setBox id s := by
 cases H; simp only [AS.setBox, AS.mk.injEq, and_true]
 funext i; split <;> rfl
theorem frozen_sl_bytes (c : Nat) (bs : List UInt8) : (∀ cs, PV.sl c 1 (bs.map brow) = .agg cs → ∀ x ∈ cs, Frozen x) ∧ Frozen (PV.sl c 1 (bs.map brow)) := ⟨fun cs h => by cases bs <;> simp [PV.sl] at h, frozen_sl _ _ _⟩
theorem wsub {a b : Nat} (h : a ≤ b) (hb : b < 2 ^ 40) : IntKind.i64.wrap ((b : Int) - a) = ((b - a : Nat) : Int) := by rw [wrap_i64 (by omega) (by omega)]; omega
theorem min8 (n : Nat) : amin (pi n) (pi 8) = some (pi (m8 n : Nat)) := by
 simp only [amin_int, m8]
 congr 3
 split <;> omega
set_option maxRecDepth 100000 in
theorem make_bytes (H : AS) (n : Nat) : amakeS Tryz.prog H 28 (pi (m8 n : Nat)) (pi (m8 n : Nat)) = some (.msl H.next (m8 n) 1, (H.setBox H.next ((List.replicate (m8 n) (0 : UInt8)).map brow)).bump 1) := by
 have ht : Tryz.prog.underlying 28 = some (.slice 5) := by kernel_rfl
 have h : m8 n ≤ 8 := by unfold m8; omega
 simp only [amakeS, ht, Tryz.sz5, Tryz.zero5, Tryz.by5]
 rw [if_pos ⟨trivial, by omega, by omega, by omega, rfl, rfl⟩]
 simp [brow]
theorem below_bytes (n c : Nat) (bs : List UInt8) : Below n (PV.sl c 1 (bs.map brow)) := by
 rw [below_sl]; intro r hr p hp
 obtain ⟨b, _, rfl⟩ := List.mem_map.1 hr
 simp [brow] at hp; subst hp; exact .val _
theorem wnat {a : Nat} (h : a < 2 ^ 40) : IntKind.i64.wrap (a : Int) = a := wrap_i64 (by omega) (by omega)
set_option maxRecDepth 100000 in
theorem cut_bytes {c : Nat} {bs : List UInt8} {a n : Nat} (h : a + n ≤ bs.length) : aCutOp Tryz.prog 28 (PV.sl c 1 (bs.map brow)) (some (pi a)) (some (pi ((a : Int) + n))) = some (PV.sl c 1 (((bs.drop a).take n).map brow)) := by
  have ht : Tryz.prog.underlying 28 = some (.slice 5) := by kernel_rfl
  cases bs with
  | nil => simp [aCutOp, cutOk, ht, aBound, acut, PV.sl] at h ⊢; omega
  | cons b bs =>
    simp only [aCutOp, cutOk, ht, aBound, acut, PV.sl, List.map_cons, Tryz.sz5, Option.bind_some, Option.getD_some]
    simp only [List.length_cons, List.length_map] at h ⊢
    rw [if_pos (by simp), if_pos (by omega)]
    congr 1
    rw [← List.map_cons, ← List.map_take, ← List.map_drop, show ((a : Int) + n).toNat = a + n by omega, show (a : Int).toNat = a by omega, List.drop_take]
    simp [PV.sl, show a + n - a = n by omega]
theorem wadd {a b : Nat} (h : a + b < 2 ^ 40) : IntKind.i64.wrap ((a : Int) + b) = ((a + b : Nat) : Int) := by rw [wrap_i64 (by omega) (by omega)]; omega
set_option maxRecDepth 100000 in
theorem refuseOk (H : AS) (id : Nat) (bs : List UInt8) (c : Nat) (s : RS) (hr : RdOk H id bs c s) (a e : Int) (he : s.e = 0) : ACalls Tryz.prog 28 [.ptr id 1 0 0, pi a, pi e] H fun q H' => q = .tuple [] ∧ H' = H.setBox id [rrow bs c { s with e := e, of := a }] := by
 refine ACalls_intro Tryz.func28 rfl (by kernel_rfl) (by simp) fun hwf hbel => ?_
 refine T_sr fun K0 hK0 => ?_
 simp [↓put_at, ↓AF.ev_tmp, ↓ex_cons, ↓ex_nil, ↓ex_move, ↓ex_nilCheck, ↓ex_fieldAddr, ↓ex_load, ↓ex_binOp, ↓AF.ev_int, aFieldAddr, aload, partOf, aBin, aBinV, frame0, hr.box, rrow, he]
 refine hK0 _ _ ?_
 try clear hK0 K0
 refine T_cond (rfl) (fun c0 => ?_) (fun c0 => ?_)
 refine T_rg ?_
 simp [↓put_at, ↓AF.ev_tmp, ↓ex_cons, ↓ex_nil, ↓ex_move, ↓ex_nilCheck, ↓ex_fieldAddr, ↓ex_store, aFieldAddr, astore, splice, frame0, hr.box, rrow]
 refine owes_none_at (.inl rfl) (hr.wf hwf { s with e := e, of := a }) (by simp) rfl ?_
 rw [setBox_setBox]; exact .refl _
 cases c0 --done
set_option maxRecDepth 100000 in
theorem refuseBad (H : AS) (id : Nat) (bs : List UInt8) (c : Nat) (s : RS) (hr : RdOk H id bs c s) (a e : Int) (he : s.e ≠ 0) : ACalls Tryz.prog 28 [.ptr id 1 0 0, pi a, pi e] H fun q H' => q = .tuple [] ∧ H' = H := by
 refine ACalls_intro Tryz.func28 rfl (by kernel_rfl) (by simp) fun hwf hbel => ?_
 refine T_sr fun K0 hK0 => ?_
 simp [↓put_at, ↓AF.ev_tmp, ↓ex_cons, ↓ex_nil, ↓ex_move, ↓ex_nilCheck, ↓ex_fieldAddr, ↓ex_load, ↓ex_binOp, ↓AF.ev_int, aFieldAddr, aload, partOf, aBin, aBinV, frame0, hr.box, rrow, int_beq, he]
 refine hK0 _ _ ?_
 try clear hK0 K0
 refine T_cond (rfl) (fun c0 => ?_) (fun c0 => ?_)
 cases c0 --done
 refine T_skip ?_
 try simp only [tN, bN, lN]
 exact owes_none_at (.inl rfl) hwf (Nat.le_refl _) rfl (.refl _)
set_option maxRecDepth 100000 in
theorem takeOk (H : AS) (id : Nat) (bs : List UInt8) (c : Nat) (s : RS) (hr : RdOk H id bs c s) (n : Nat) (he : s.e = 0) (hn : s.at' + n ≤ bs.length) : ACalls Tryz.prog 52 [.ptr id 1 0 0, pi n] H fun q H' => q = PV.sl c 1 (((bs.drop s.at').take n).map brow) ∧ H' = H.setBox id [rrow bs c { s with at' := s.at' + n }] := by
 refine ACalls_intro Tryz.func52 rfl (by kernel_rfl) (by simp) fun hwf hbel => ?_
 have hsm := hr.small
 have hle := hr.le
 refine T_sr fun K0 hK0 => ?_
 simp [↓put_at, ↓AF.ev_tmp, ↓ex_cons, ↓ex_nil, ↓ex_assign, ↓AF.ev_slice, frame0]
 refine hK0 _ _ ?_
 try clear hK0 K0
 refine T_seqk fun K1 hK1 => ?_
 refine T_seqk fun K2 hK2 => ?_
 refine T_draw (fun i => i = id) [] (.free 0 (.free 1 (.free 2 (.free 3 (.free 4 (.free 5 (.free 6 (.free 7 (.free 8 (.free 9 (.free 10 (.free 11 (.free 12 (.free 13 (.free 14 (.free 15 (.free 16 (.free 17 (.free 18 .done))))))))))))))))))) mix ?_ ?_ ?_
 kernel_rfl
 kernel_rfl
 simp [↓put_at, ↓AF.ev_tmp, ↓wk_free, ↓wk_sole, ↓wk_done, ↓wanted_none, Keeps, Same, ↓wk_move, ↓wk_nilCheck, ↓wk_fieldAddr, ↓wk_load, ↓wk_binOp, ↓AF.ev_int, ↓wanted_some, ↓wk_len, ↓wk_pick, ↓AF.ev_bool, aFieldAddr, aload, partOf, aBin, aBinV, aLen, frame0, hr.box, rrow, he, wsub (show s.at' ≤ bs.length from hle) hsm]
 refine hK2 _ _ ?_
 try clear hK2 K2
 refine T_cond (rfl) (fun c0 => ?_) (fun c0 => ?_)
 exfalso
 simp at c0
 omega --done
 refine T_skip ?_
 try simp only [tN, bN, lN]
 refine hK1 _ _ ?_
 try clear hK1 K1
 refine T_seqk fun K3 hK3 => ?_
 refine T_sr fun K4 hK4 => ?_
 simp [↓put_at, ↓AF.ev_tmp, ↓ex_cons, ↓ex_nil, ↓ex_move, ↓ex_nilCheck, ↓ex_fieldAddr, ↓ex_load, ↓ex_binOp, ↓AF.ev_int, aFieldAddr, aload, partOf, aBin, aBinV, frame0, hr.box, rrow, he]
 refine hK4 _ _ ?_
 try clear hK4 K4
 refine T_cond (rfl) (fun c1 => ?_) (fun c1 => ?_)
 cases c1 --done
 refine T_skip ?_
 try simp only [tN, bN, lN]
 refine hK3 _ _ ?_
 try clear hK3 K3
 refine T_sr fun K5 hK5 => ?_
 simp [↓put_at, ↓AF.ev_tmp, ↓ex_cons, ↓ex_nil, ↓ex_move, ↓ex_nilCheck, ↓ex_fieldAddr, ↓ex_load, ↓ex_binOp, ↓ex_store, aFieldAddr, aload, partOf, aBin, aBinV, astore, splice, frame0, hr.box, rrow, wadd (show s.at' + n < 2 ^ 40 by omega)]
 refine hK5 _ _ ?_
 try clear hK5 K5
 refine T_seqk fun K6 hK6 => ?_
 refine T_draw (fun i => i = id) [] (.free 0 (.free 1 (.free 2 (.free 3 (.free 4 (.free 5 (.free 6 (.free 7 (.free 8 (.free 9 (.free 10 (.free 11 (.free 12 (.free 13 (.free 14 (.free 15 .done)))))))))))))))) mix ?_ ?_ ?_
 kernel_rfl
 kernel_rfl
 simp [↓put_at, ↓AF.ev_tmp, ↓wk_free, ↓wk_sole, ↓wk_done, ↓wanted_none, Keeps, Same, ↓wk_move, ↓wk_nilCheck, ↓wk_fieldAddr, ↓wk_load, ↓wk_binOp, ↓wk_slice, ↓wk_assign, aFieldAddr, aload, partOf, aBin, aBinV, frame0, hr.box, rrow, wnat (show s.at' < 2 ^ 40 by omega), cut_bytes hn]
 refine hK6 _ _ ?_
 try clear hK6 K6
 refine T_ret ?_
 try simp only [tR, bR, lR]
 refine owes_one_at (.inr rfl) (hr.wf hwf { s with at' := s.at' + n }) (r := PV.sl c 1 (((bs.map brow).drop s.at').take n)) (by simp) rfl (by rw [List.map_take, List.map_drop]) ?_ (by rw [← List.map_drop, ← List.map_take]; exact frozen_sl_bytes _ _) (by rw [← List.map_drop, ← List.map_take]; exact below_bytes _ _ _)
 exact .refl _
set_option maxRecDepth 100000 in
theorem takeShort (H : AS) (id : Nat) (bs : List UInt8) (c : Nat) (s : RS) (hr : RdOk H id bs c s) (n : Nat) (he : s.e = 0) (hn : ¬ s.at' + n ≤ bs.length) (hn40 : n < 2 ^ 63) : ACalls Tryz.prog 52 [.ptr id 1 0 0, pi n] H fun q H' => q = PV.sl H.color 1 ((List.replicate (m8 n) (0 : UInt8)).map brow) ∧ H' = H.setBox id [rrow bs c { s with e := 2, of := bs.length }] := by
 refine ACalls_intro Tryz.func52 rfl (by kernel_rfl) (by simp) fun hwf hbel => ?_
 have hsm := hr.small
 have hle := hr.le
 refine T_sr fun K0 hK0 => ?_
 simp [↓put_at, ↓AF.ev_tmp, ↓ex_cons, ↓ex_nil, ↓ex_assign, ↓AF.ev_slice, frame0]
 refine hK0 _ _ ?_
 try clear hK0 K0
 refine T_seqk fun K1 hK1 => ?_
 refine T_seqk fun K2 hK2 => ?_
 refine T_draw (fun i => i = id) [] (.free 0 (.free 1 (.free 2 (.free 3 (.free 4 (.free 5 (.free 6 (.free 7 (.free 8 (.free 9 (.free 10 (.free 11 (.free 12 (.free 13 (.free 14 (.free 15 (.free 16 (.free 17 (.free 18 .done))))))))))))))))))) mix ?_ ?_ ?_
 kernel_rfl
 kernel_rfl
 simp [↓put_at, ↓AF.ev_tmp, ↓wk_free, ↓wk_sole, ↓wk_done, ↓wanted_none, Keeps, Same, ↓wk_move, ↓wk_nilCheck, ↓wk_fieldAddr, ↓wk_load, ↓wk_binOp, ↓AF.ev_int, ↓wanted_some, ↓wk_len, ↓wk_pick, ↓AF.ev_bool, aFieldAddr, aload, partOf, aBin, aBinV, aLen, frame0, hr.box, rrow, he, wsub (show s.at' ≤ bs.length from hle) hsm]
 refine hK2 _ _ ?_
 try clear hK2 K2
 refine T_cond (rfl) (fun c0 => ?_) (fun c0 => ?_)
 refine T_rg ?_
 simp [↓put_at, ↓AF.ev_tmp, ↓ex_cons, ↓ex_nil, ↓ex_move, ↓ex_nilCheck, ↓ex_fieldAddr, ↓ex_load, ↓ex_len, ↓ex_call, ↓AF.ev_int, ↓AF.ev_func, aFieldAddr, aload, partOf, aLen, frame0, hr.box, rrow]
 refine callK.of (refuseOk _ id bs c s hr _ _ he) ?_
 rintro _ Hz ⟨rfl, hz⟩
 subst Hz
 simp [↓put_at, ↓AF.ev_tmp, ↓ex_cons, ↓ex_nil, ↓ex_move, ↓ex_nilCheck, ↓ex_fieldAddr, ↓ex_load, ↓ex_len, ↓ex_call, ↓AF.ev_int, ↓AF.ev_func, aFieldAddr, aload, partOf, aLen, frame0, hr.box, rrow]
 refine hK1 _ _ ?_
 try clear hK1 K1
 refine T_seqk fun K3 hK3 => ?_
 refine T_sr fun K4 hK4 => ?_
 simp [↓put_at, ↓AF.ev_tmp, ↓ex_cons, ↓ex_nil, ↓ex_move, ↓ex_nilCheck, ↓ex_fieldAddr, ↓ex_load, ↓ex_binOp, ↓AF.ev_int, aFieldAddr, aload, partOf, aBin, aBinV, frame0, hr.box, rrow]
 refine hK4 _ _ ?_
 try clear hK4 K4
 refine T_cond (rfl) (fun c1 => ?_) (fun c1 => ?_)
 refine T_sr fun K5 hK5 => ?_
 simp [↓put_at, ↓AF.ev_tmp, ↓ex_cons, ↓ex_nil, ↓ex_move, ↓ex_min, ↓AF.ev_int, ↓ex_makeSlice, ↓ex_assign, frame0, min8, make_bytes, -amin_int]
 refine hK5 _ _ ?_
 try clear hK5 K5
 refine T_ret ?_
 try simp only [tR, bR, lR]
 have hlt := hr.lt hwf
 refine owes_out_at (lo := H.next) (H1 := H.setBox id [rrow bs c { s with e := 2, of := bs.length }]) (.inr rfl) (hr.wf hwf _) (by simp) rfl (.mk (by simp) (by simp) (by simp) (by simp)) (by simp) ?_ ?_
 exact .bump (.setBox (by simp) (.refl _))
 intro r hr p hp
 obtain ⟨b, _, rfl⟩ := List.mem_map.1 hr
 simp [brow] at hp; subst hp; exact .val _
 cases c1 --done
 exfalso
 simp at c0
 omega --done
set_option maxRecDepth 100000 in
theorem takeBad (H : AS) (id : Nat) (bs : List UInt8) (c : Nat) (s : RS) (hr : RdOk H id bs c s) (n : Nat) (he : s.e ≠ 0) : ACalls Tryz.prog 52 [.ptr id 1 0 0, pi n] H fun q H' => q = PV.sl H.color 1 ((List.replicate (m8 n) (0 : UInt8)).map brow) ∧ H' = H := by
 refine ACalls_intro Tryz.func52 rfl (by kernel_rfl) (by simp) fun hwf hbel => ?_
 refine T_sr fun K0 hK0 => ?_
 simp [↓put_at, ↓AF.ev_tmp, ↓ex_cons, ↓ex_nil, ↓ex_assign, ↓AF.ev_slice, frame0]
 refine hK0 _ _ ?_
 try clear hK0 K0
 refine T_seqk fun K1 hK1 => ?_
 refine T_seqk fun K2 hK2 => ?_
 refine T_draw (fun i => i = id) [] (.free 0 (.free 1 (.free 2 (.free 3 (.free 4 (.free 5 (.free 6 (.free 7 (.free 8 (.free 9 (.free 10 (.free 11 (.free 12 (.free 13 (.free 14 (.free 15 (.free 16 (.free 17 (.free 18 .done))))))))))))))))))) mix ?_ ?_ ?_
 kernel_rfl
 kernel_rfl
 simp [↓put_at, ↓AF.ev_tmp, ↓wk_free, ↓wk_sole, ↓wk_done, ↓wanted_none, Keeps, Same, ↓wk_move, ↓wk_nilCheck, ↓wk_fieldAddr, ↓wk_load, ↓wk_binOp, ↓AF.ev_int, ↓wanted_some, ↓wk_len, ↓wk_pick, ↓AF.ev_bool, aFieldAddr, aload, partOf, aBin, aBinV, aLen, frame0, hr.box, rrow, int_beq, he]
 refine hK2 _ _ ?_
 try clear hK2 K2
 refine T_cond (rfl) (fun c0 => ?_) (fun c0 => ?_)
 cases c0 --done
 refine T_skip ?_
 try simp only [tN, bN, lN]
 refine hK1 _ _ ?_
 try clear hK1 K1
 refine T_seqk fun K3 hK3 => ?_
 refine T_sr fun K4 hK4 => ?_
 simp [↓put_at, ↓AF.ev_tmp, ↓ex_cons, ↓ex_nil, ↓ex_move, ↓ex_nilCheck, ↓ex_fieldAddr, ↓ex_load, ↓ex_binOp, ↓AF.ev_int, aFieldAddr, aload, partOf, aBin, aBinV, frame0, hr.box, rrow, int_bne, he]
 refine hK4 _ _ ?_
 try clear hK4 K4
 refine T_cond (rfl) (fun c1 => ?_) (fun c1 => ?_)
 refine T_sr fun K5 hK5 => ?_
 simp [↓put_at, ↓AF.ev_tmp, ↓ex_cons, ↓ex_nil, ↓ex_move, ↓ex_min, ↓AF.ev_int, ↓ex_makeSlice, ↓ex_assign, frame0, min8, make_bytes, -amin_int]
 refine hK5 _ _ ?_
 try clear hK5 K5
 refine T_ret ?_
 try simp only [tR, bR, lR]
 refine owes_out_at (lo := H.next) (H1 := H) (.inr rfl) hwf (Nat.le_refl _) rfl (.mk (by simp) (by simp) (by simp) (by simp)) (Nat.le_refl _) ?_ ?_
 exact .bump (.setBox (by simp) (.refl _))
 intro r hr p hp
 obtain ⟨b, _, rfl⟩ := List.mem_map.1 hr
 simp [brow] at hp; subst hp; exact .val _
 cases c1 --done
end Go.Abs
namespace Go.Abs
open Go.Proofs
set_option autoImplicit false
set_option linter.all false
theorem rdTake_le {bs : List UInt8} {n : Nat} {s : RS} (h : s.at' ≤ bs.length) : (rdTake bs n s).2.at' ≤ bs.length := by
 unfold rdTake; split
 split <;> simp <;> omega
 exact h
theorem rdTake_length {bs : List UInt8} {n : Nat} {s : RS} (hn : n ≤ 8) : (rdTake bs n s).1.length = n := by
 unfold rdTake m8; split
 split
 simp; omega
 simp; omega
 simp; omega
theorem takeIs (H : AS) (id : Nat) (bs : List UInt8) (c : Nat) (s : RS) (hr : RdOk H id bs c s) (n : Nat) (hn : n < 2 ^ 63) : ACalls Tryz.prog 52 [.ptr id 1 0 0, pi n] H fun q H' => (∃ d, q = PV.sl d 1 ((rdTake bs n s).1.map brow)) ∧ H' = H.setBox id [rrow bs c (rdTake bs n s).2] := by
 unfold rdTake
 by_cases he : s.e = 0
 by_cases h : s.at' + n ≤ bs.length
 have h' : ¬ bs.length < s.at' + n := by omega
 simp only [he, h', if_true, if_false]
 exact (takeOk H id bs c s hr n he h).mono fun q H' hq => ⟨⟨_, hq.1⟩, by rw [hq.2, he]⟩
 have h' : bs.length < s.at' + n := by omega
 simp only [he, h', if_true]
 exact (takeShort H id bs c s hr n he h hn).mono fun q H' hq => ⟨⟨_, hq.1⟩, hq.2⟩
 simp only [he, if_false]
 exact (takeBad H id bs c s hr n he).mono fun q H' hq => ⟨⟨_, hq.1⟩, by rw [hq.2, hr.same]⟩
theorem RdOk.set {H : AS} {id : Nat} {bs : List UInt8} {c : Nat} {s s' : RS} (h : RdOk H id bs c s) (hle : s'.at' ≤ bs.length) : RdOk (H.setBox id [rrow bs c s']) id bs c s' := ⟨by simp, hle, h.small⟩
theorem w_u8 (b : UInt8) : IntKind.i64.wrap (b.toNat : Int) = b.toNat := wrap_i64 (by have := b.toNat_lt; omega) (by have := b.toNat_lt; omega)
theorem conv_b8_int (b : UInt8) : aConvert Tryz.prog 5 3 (b8 b) = some (pi b.toNat) := by
 simp [aConvert, b8]; exact w_u8 b
theorem headD_get {l : List UInt8} (h : l.length = 1) : l[0]? = some (l.head?.getD 0) := by
 obtain ⟨x, rfl⟩ := List.length_eq_one_iff.1 h; rfl
def v64 (c : BitVec 64) : PV := .val (.int .u64 (c.toNat : Int))
@[simp] theorem cells_v64 (c : BitVec 64) : (v64 c).cells = [v64 c] := rfl
@[simp] theorem okCells_v64 (c : BitVec 64) : (v64 c).okCells = true := rfl
@[simp] theorem atomic_v64 (c : BitVec 64) : (v64 c).atomic = true := rfl
theorem u64_wrap_nat (n : Nat) : IntKind.u64.wrap (n : Int) = ((n % 2 ^ 64 : Nat) : Int) := by
 unfold IntKind.wrap; simp [IntKind.bits, IntKind.signed]
theorem conv_b8_64 (b : UInt8) : aConvert Tryz.prog 5 40 (b8 b) = some (v64 (BitVec.ofNat 64 b.toNat)) := by
 simp [aConvert, b8, v64]
 rw [u64_wrap_nat]
 have := b.toNat_lt; omega
theorem bin_shl64 (P : Program) (t : TypeId) (c : BitVec 64) (k : IntKind) (n : Nat) (hn : n < 64) : aBin P .shl t (v64 c) (.val (.int k (n : Int))) = some (v64 (c <<< n)) := by
 show (if 0 ≤ (n : Int) then some (Value.int .u64 (IntKind.u64.wrap ((c.toNat : Int) * 2 ^ min (n : Int).toNat 64))) else none).map PV.val = _
 rw [if_pos (by omega), show min (n : Int).toNat 64 = n by omega]
 rw [show (c.toNat : Int) * 2 ^ n = ((c.toNat * 2 ^ n : Nat) : Int) by rw [Int.natCast_mul, Int.natCast_pow]; rfl, u64_wrap_nat]
 simp [v64, BitVec.toNat_shiftLeft, Nat.shiftLeft_eq]
theorem u64_wrap_toNat (c : BitVec 64) : IntKind.u64.wrap (c.toNat : Int) = c.toNat := by
 rw [u64_wrap_nat, Nat.mod_eq_of_lt c.isLt]
theorem ofInt64_toNat (c : BitVec 64) : BitVec.ofInt 64 (c.toNat : Int) = c := by
 apply BitVec.eq_of_toInt_eq; simp [BitVec.toInt_ofInt, BitVec.toInt_eq_toNat_bmod]
theorem bin_or64 (P : Program) (t : TypeId) (c d : BitVec 64) : aBin P .or t (v64 c) (v64 d) = some (v64 (c ||| d)) := by
 show (if IntKind.u64 = IntKind.u64 then some (Value.int .u64 (IntKind.u64.wrap ((BitVec.ofInt 64 (c.toNat : Int) ||| BitVec.ofInt 64 (d.toNat : Int)).toNat : Int))) else none).map PV.val = _
 rw [if_pos rfl, ofInt64_toNat, ofInt64_toNat, u64_wrap_toNat]; rfl
theorem conv_v64 (c : BitVec 64) : aConvert Tryz.prog 40 3 (v64 c) = some (pi c.toInt) := by
 have h := c.isLt
 have e : IntKind.i64.wrap (c.toNat : Int) = c.toInt := by
   rw [BitVec.toInt_eq_toNat_cond]
   unfold IntKind.wrap
   simp only [IntKind.bits, IntKind.signed, Bool.true_and]
   split <;> rename_i h1 <;> split <;> rename_i h2 <;> simp at h1 <;> omega
 simp [aConvert, v64]; exact e
def numTo (l : List UInt8) : Nat → BitVec 64
  | 0 => 0
  | i + 1 => numTo l i ||| (BitVec.ofNat 64 ((l[i]?).getD 0).toNat <<< (8 * i))
theorem numTo_succ {l : List UInt8} {i : Nat} (h : i < l.length) : numTo l (i + 1) = numTo l i ||| (BitVec.ofNat 64 l[i].toNat <<< (8 * i)) := by
 rw [numTo, List.getElem?_eq_getElem h]; rfl
def rdNum (bs : List UInt8) (s : RS) : Int × RS := ((numTo (rdTake bs 8 s).1 8).toInt, (rdTake bs 8 s).2)
theorem sl_get0 {d : Nat} {l : List UInt8} {b : UInt8} (h : l[0]? = some b) : aindex 1 (PV.sl d 1 (l.map brow)) 0 = some (.rptr d (brow b)) := sl_get (i := 0) (by simp [h])
theorem bin_shl8 {P : Program} {t : TypeId} {c : BitVec 64} {k : IntKind} {i : Nat} (h : i < 8) : aBin P .shl t (v64 c) (.val (.int k (8 * (i : Int)))) = some (v64 (c <<< (8 * i))) := bin_shl64 P t c k (8 * i) (by omega)
theorem bin_mul8 {i : Nat} (h : i < 8) : aBin Tryz.prog .mul 3 (pi 8) (pi i) = some (pi ((8 * i : Nat) : Int)) := by
 simp only [aBin, aBinV, if_true, Option.map_some]
 rw [w8 h]; rfl
set_option maxRecDepth 100000 in
theorem byteIs (H : AS) (id : Nat) (bs : List UInt8) (c : Nat) (s : RS) (hr : RdOk H id bs c s) : ACalls Tryz.prog 54 [.ptr id 1 0 0] H fun q H' => q = pi (rdByte bs s).1 ∧ H' = H.setBox id [rrow bs c (rdByte bs s).2] := by
 refine ACalls_intro Tryz.func54 rfl (by kernel_rfl) (by simp) fun hwf hbel => ?_
 have hl1 := rdTake_length (bs := bs) (s := s) (show 1 ≤ 8 by decide)
 have hg := headD_get hl1
 refine T_sr fun K0 hK0 => ?_
 simp [↓put_at, ↓AF.ev_tmp, ↓ex_cons, ↓ex_nil, ↓ex_assign, ↓AF.ev_int, frame0]
 refine hK0 _ _ ?_
 try clear hK0 K0
 refine T_sr fun K1 hK1 => ?_
 simp [↓put_at, ↓AF.ev_tmp, ↓ex_cons, ↓ex_nil, ↓ex_move, ↓ex_call, ↓AF.ev_int, ↓AF.ev_func, ↓ex_indexAddr, ↓ex_load, ↓ex_convert, ↓ex_assign, aIndexAddr, aload, frame0, aIndexAddr, conv_b8_int, sl_get0 hg, part_byte]
 refine callK.of (takeIs _ id bs c s hr 1 (by decide)) ?_
 rintro _ H2 ⟨⟨d, rfl⟩, rfl⟩
 simp [↓put_at, ↓AF.ev_tmp, ↓ex_cons, ↓ex_nil, ↓ex_move, ↓ex_call, ↓AF.ev_int, ↓AF.ev_func, ↓ex_indexAddr, ↓ex_load, ↓ex_convert, ↓ex_assign, aIndexAddr, aload, frame0, aIndexAddr, conv_b8_int, sl_get0 hg, part_byte]
 refine hK1 _ _ ?_
 try clear hK1 K1
 refine T_ret ?_
 try simp only [tR, bR, lR]
 exact owes_one_at (.inr rfl) (hr.wf hwf _) (by simp) rfl rfl (.refl _) (by simp) (by simp)
set_option maxRecDepth 100000 in
theorem numIs (H : AS) (id : Nat) (bs : List UInt8) (c : Nat) (s : RS) (hr : RdOk H id bs c s) : ACalls Tryz.prog 56 [.ptr id 1 0 0] H fun q H' => q = pi (rdNum bs s).1 ∧ H' = H.setBox id [rrow bs c (rdNum bs s).2] := by
 refine ACalls_intro Tryz.func56 rfl (by kernel_rfl) (by simp) fun hwf hbel => ?_
 have hl8 := rdTake_length (bs := bs) (s := s) (show 8 ≤ 8 by decide)
 unfold rdNum
 generalize hl : (rdTake bs 8 s).1 = l at hl8 ⊢
 refine T_sr fun K0 hK0 => ?_
 simp [↓put_at, ↓AF.ev_tmp, ↓ex_cons, ↓ex_nil, ↓ex_assign, ↓AF.ev_int, frame0]
 refine hK0 _ _ ?_
 try clear hK0 K0
 refine T_sr fun K1 hK1 => ?_
 simp [↓put_at, ↓AF.ev_tmp, ↓ex_cons, ↓ex_nil, ↓ex_assign, ↓AF.ev_int, frame0]
 refine hK1 _ _ ?_
 try clear hK1 K1
 refine T_seqk fun K2 hK2 => ?_
 refine T_sr fun K3 hK3 => ?_
 simp [↓put_at, ↓AF.ev_tmp, ↓ex_cons, ↓ex_nil, ↓ex_move, ↓ex_call, ↓AF.ev_int, ↓AF.ev_func, ↓ex_len, aLen, frame0, hl8]
 refine callK.of (takeIs _ id bs c s hr 8 (by decide)) ?_
 rintro _ H2 ⟨⟨d, rfl⟩, rfl⟩
 rw [hl]
 simp [↓put_at, ↓AF.ev_tmp, ↓ex_cons, ↓ex_nil, ↓ex_move, ↓ex_call, ↓AF.ev_int, ↓AF.ev_func, ↓ex_len, aLen, frame0, hl8]
 refine hK3 _ _ ?_
 try clear hK3 K3
 refine T_block ?_
 refine T_loop (fun k F H' => ∃ i : Nat, k = 8 - i ∧ i ≤ 8 ∧ F 7 = PV.sl d 1 (l.map brow) ∧ F 8 = pi 8 ∧ F 9 = pi i ∧ F 3 = v64 (numTo l i) ∧ H' = H.setBox id [rrow bs c (rdTake bs 8 s).2]) (8) ?_ ?_
 refine ⟨0, ?_⟩
 simp [hl8, numTo]
 rfl
 rintro k F H1 ⟨i, rfl, hile, g7, g8, g9, g3, hH⟩
 refine T_sr fun K4 hK4 => ?_
 simp [↓put_at, ↓AF.ev_tmp, ↓ex_cons, ↓ex_nil, ↓ex_binOp, aBin, aBinV, frame0, g7, g8, g9, g3]
 refine hK4 _ _ ?_
 try clear hK4 K4
 refine T_seqk fun K5 hK5 => ?_
 refine T_cond (rfl) (fun c0 => ?_) (fun c0 => ?_)
 have hi8 : i < 8 := by simp at c0; omega
 refine T_skip ?_
 try simp only [tN, bN, lN]
 refine hK5 _ _ ?_
 try clear hK5 K5
 refine T_seqk fun K6 hK6 => ?_
 refine T_block ?_
 refine T_sr fun K7 hK7 => ?_
 simp [↓put_at, ↓AF.ev_tmp, ↓ex_cons, ↓ex_nil, ↓ex_move, ↓ex_indexAddr, ↓ex_load, ↓ex_assign, aIndexAddr, aload, frame0, g7, g8, g9, g3, aIndexAddr, sl_get (map_get (f := brow) (show i < l.length by omega)), part_byte]
 refine hK7 _ _ ?_
 try clear hK7 K7
 refine T_rg ?_
 simp [↓put_at, ↓AF.ev_tmp, ↓ex_cons, ↓ex_nil, ↓ex_move, ↓ex_convert, ↓ex_binOp, ↓AF.ev_int, ↓ex_assign, frame0, g7, g8, g9, g3, conv_b8_64, bin_mul8 hi8, bin_shl8 hi8, bin_or64]
 refine hK6 _ _ ?_
 try clear hK6 K6
 refine T_rg ?_
 simp [↓put_at, ↓AF.ev_tmp, ↓ex_cons, ↓ex_nil, ↓ex_binOp, ↓AF.ev_int, ↓ex_move, aBin, aBinV, frame0, g7, g8, g9, g3]
 refine ⟨8 - (i + 1), by omega, i + 1, rfl, by omega, by rw [wrap_i64 (by omega) (by omega)]; rfl, ?_, hH⟩
 rw [numTo_succ (show i < l.length by omega)]
 have hi8 : i = 8 := by simp at c0; omega
 subst hi8
 refine T_exit ?_
 try simp only [tE, bE, lE, if_true, Nat.reduceEqDiff, if_false, reduceIte, tN, bN, lN]
 refine hK2 _ _ ?_
 try clear hK2 K2
 refine T_sr fun K8 hK8 => ?_
 simp [↓put_at, ↓AF.ev_tmp, ↓ex_cons, ↓ex_nil, ↓ex_move, ↓ex_convert, ↓ex_assign, frame0, g7, g8, g9, g3, conv_v64]
 refine hK8 _ _ ?_
 try clear hK8 K8
 refine T_ret ?_
 try simp only [tR, bR, lR]
 subst hH
 exact owes_one_at (.inr rfl) (hr.wf hwf _) (by simp) rfl rfl (.refl _) (by simp) (by simp)
end Go.Abs
namespace Go.Abs
open Go.Proofs
set_option autoImplicit false
set_option linter.all false
theorem refuseIs (H : AS) (id : Nat) (bs : List UInt8) (c : Nat) (s : RS) (hr : RdOk H id bs c s) (a e : Int) : ACalls Tryz.prog 28 [.ptr id 1 0 0, pi a, pi e] H fun q H' => q = .tuple [] ∧ H' = H.setBox id [rrow bs c (rdRefuse a e s)] := by
 unfold rdRefuse
 by_cases he : s.e = 0
 simp only [he, if_true]; exact refuseOk H id bs c s hr a e he
 simp only [he, if_false]; exact (refuseBad H id bs c s hr a e he).mono fun q H' hq => ⟨hq.1, by rw [hq.2, hr.same]⟩
theorem rdRefuse_at (a e : Int) (s : RS) : (rdRefuse a e s).at' = s.at' := by unfold rdRefuse; split <;> rfl
theorem rdByte_le {bs : List UInt8} {s : RS} (h : s.at' ≤ bs.length) : (rdByte bs s).2.at' ≤ bs.length := rdTake_le h
theorem rdNum_le {bs : List UInt8} {s : RS} (h : s.at' ≤ bs.length) : (rdNum bs s).2.at' ≤ bs.length := rdTake_le h
def rdManyA (bs : List UInt8) (s : RS) : RS := if (rdNum bs s).1 < 0 then rdRefuse s.at' 4 (rdNum bs s).2 else (rdNum bs s).2
def rdManyB (bs : List UInt8) (s : RS) : RS := if (rdManyA bs s).e = 0 ∧ (rdNum bs s).1 > ((bs.length - (rdManyA bs s).at' : Nat) : Int) then rdRefuse bs.length 2 (rdManyA bs s) else rdManyA bs s
def rdMany (bs : List UInt8) (s : RS) : Nat × RS := (if (rdManyB bs s).e = 0 then (rdNum bs s).1.toNat else 0, rdManyB bs s)
theorem rdManyA_le {bs : List UInt8} {s : RS} (h : s.at' ≤ bs.length) : (rdManyA bs s).at' ≤ bs.length := by
 unfold rdManyA; split
 rw [rdRefuse_at]; exact rdNum_le h
 exact rdNum_le h
theorem rdManyB_le {bs : List UInt8} {s : RS} (h : s.at' ≤ bs.length) : (rdManyB bs s).at' ≤ bs.length := by
 unfold rdManyB; split
 rw [rdRefuse_at]; exact rdManyA_le h
 exact rdManyA_le h
theorem rdMany_le {bs : List UInt8} {s : RS} (h : s.at' ≤ bs.length) : (rdMany bs s).2.at' ≤ bs.length := rdManyB_le h
theorem rdMany_nonneg {bs : List UInt8} {s : RS} (he : (rdManyB bs s).e = 0) : 0 ≤ (rdNum bs s).1 ∧ (rdNum bs s).1 ≤ ((bs.length - (rdManyB bs s).at' : Nat) : Int) := by
 have ref : ∀ (a e : Int) (s : RS), e ≠ 0 → (rdRefuse a e s).e ≠ 0 := fun a e s h => by unfold rdRefuse; split <;> simp_all
 have ha : (rdManyA bs s).e = 0 ∧ rdManyB bs s = rdManyA bs s ∧ ¬ (rdNum bs s).1 > ((bs.length - (rdManyA bs s).at' : Nat) : Int) := by
   unfold rdManyB at he ⊢
   split at he
   · exact absurd he (ref _ _ _ (by decide))
   · rename_i h
     rw [if_neg h]
     exact ⟨he, rfl, fun h2 => h ⟨he, h2⟩⟩
 have hn : ¬ (rdNum bs s).1 < 0 := fun h => by
   have h2 := ha.1
   unfold rdManyA at h2
   rw [if_pos h] at h2
   exact ref _ _ _ (by decide) h2
 rw [ha.2.1]
 exact ⟨by omega, by omega⟩
def rdText (bs : List UInt8) (s : RS) : ByteArray × RS := (⟨(rdTake bs (rdMany bs s).1 (rdMany bs s).2).1.toArray⟩, (rdTake bs (rdMany bs s).1 (rdMany bs s).2).2)
theorem rdText_le {bs : List UInt8} {s : RS} (h : s.at' ≤ bs.length) : (rdText bs s).2.at' ≤ bs.length := rdTake_le (rdMany_le h)
def rdTruth (bs : List UInt8) (s : RS) : Bool × RS := (decide ((rdByte bs s).1 = 1), if (rdByte bs s).1 > 1 then rdRefuse s.at' 203 (rdByte bs s).2 else (rdByte bs s).2)
theorem rdTruth_le {bs : List UInt8} {s : RS} (h : s.at' ≤ bs.length) : (rdTruth bs s).2.at' ≤ bs.length := by
 unfold rdTruth; dsimp only; split
 rw [rdRefuse_at]; exact rdByte_le h
 exact rdByte_le h
theorem rdMany_small {bs : List UInt8} {s : RS} (h : s.at' ≤ bs.length) : (rdMany bs s).1 ≤ bs.length := by
 unfold rdMany; dsimp only; split
 rename_i he; have := rdMany_nonneg he; omega
 omega
theorem conv_text {d : Nat} {l : List UInt8} : aToString Tryz.prog 28 9 (PV.sl d 1 (l.map brow)) = some (ps ⟨l.toArray⟩) := by
  have h1 : Tryz.prog.underlying 28 = some (.slice 5) := by kernel_rfl
  have h2 : Tryz.prog.underlying 9 = some .string := by kernel_rfl
  have h3 : Tryz.prog.underlying 5 = some (.int .u8) := by kernel_rfl
  cases l with
  | nil => simp only [aToString, h1, h2, PV.sl, List.map_nil, h3]; rfl
  | cons b l =>
    have := bytesOfRows_map (b :: l)
    simp only [List.map_cons] at this
    simp [aToString, h1, h2, PV.sl, h3, this]
theorem conv_none {d : Nat} {l : List UInt8} : aConvert Tryz.prog 28 9 (PV.sl d 1 (l.map brow)) = none := by
 have h1 : Tryz.prog.underlying 28 = some (.slice 5) := by kernel_rfl
 have h2 : Tryz.prog.underlying 9 = some .string := by kernel_rfl
 cases l <;> simp [aConvert, h1, h2, PV.sl]
set_option maxRecDepth 100000 in
theorem manyIs (H : AS) (id : Nat) (bs : List UInt8) (c : Nat) (s : RS) (hr : RdOk H id bs c s) : ACalls Tryz.prog 53 [.ptr id 1 0 0] H fun q H' => q = pi ((rdMany bs s).1 : Nat) ∧ H' = H.setBox id [rrow bs c (rdMany bs s).2] := by
 refine ACalls_intro Tryz.func53 rfl (by kernel_rfl) (by simp) fun hwf hbel => ?_
 have hle := hr.le
 have hsm := hr.small
 have hA := rdManyA_le (s := s) hle
 have hid := hr.lt hwf
 refine T_sr fun K0 hK0 => ?_
 simp [↓put_at, ↓AF.ev_tmp, ↓ex_cons, ↓ex_nil, ↓ex_assign, ↓AF.ev_int, frame0]
 refine hK0 _ _ ?_
 try clear hK0 K0
 refine T_sr fun K1 hK1 => ?_
 simp [↓put_at, ↓AF.ev_tmp, ↓ex_cons, ↓ex_nil, ↓ex_move, ↓ex_nilCheck, ↓ex_fieldAddr, ↓ex_load, ↓ex_assign, aFieldAddr, aload, partOf, frame0, hr.box, rrow]
 refine hK1 _ _ ?_
 try clear hK1 K1
 refine T_sr fun K2 hK2 => ?_
 simp [↓put_at, ↓AF.ev_tmp, ↓ex_cons, ↓ex_nil, ↓ex_move, ↓ex_call, ↓AF.ev_func, ↓ex_assign, frame0]
 refine callK.of (numIs _ id bs c s hr) ?_
 rintro _ Hz ⟨rfl, hz⟩
 subst Hz
 simp [↓put_at, ↓AF.ev_tmp, ↓ex_cons, ↓ex_nil, ↓ex_move, ↓ex_call, ↓AF.ev_func, ↓ex_assign, frame0]
 refine hK2 _ _ ?_
 try clear hK2 K2
 refine T_mid (fun F H' => F 0 = .ptr id 1 0 0 ∧ F 4 = pi (rdNum bs s).1 ∧ H' = H.setBox id [rrow bs c (rdManyA bs s)]) ?_ ?_
 refine T_sr fun K3 hK3 => ?_
 simp [↓put_at, ↓AF.ev_tmp, ↓ex_cons, ↓ex_nil, ↓ex_move, ↓ex_binOp, ↓AF.ev_int, aBin, aBinV, frame0]
 refine hK3 _ _ ?_
 try clear hK3 K3
 refine T_cond (rfl) (fun c0 => ?_) (fun c0 => ?_)
 refine T_rg ?_
 simp [↓put_at, ↓AF.ev_tmp, ↓ex_cons, ↓ex_nil, ↓ex_move, ↓ex_call, ↓AF.ev_int, ↓AF.ev_func, frame0]
 refine callK.of (refuseIs _ id bs c _ (hr.set (rdNum_le hle)) _ _) ?_
 rintro _ H2 ⟨rfl, rfl⟩
 simp [↓put_at, ↓AF.ev_tmp, ↓ex_cons, ↓ex_nil, ↓ex_move, ↓ex_call, ↓AF.ev_int, ↓AF.ev_func, frame0]
 first
   | (have hn : (rdNum bs s).1 < 0 := by simpa using c0
      simp [rdManyA, hn, setBox_setBox])
   | (have hn : ¬ (rdNum bs s).1 < 0 := by simpa using c0
      simp [frame0, rdManyA, hn])
 refine T_skip ?_
 try simp only [tN, bN, lN]
 first
   | (have hn : (rdNum bs s).1 < 0 := by simpa using c0
      simp [rdManyA, hn, setBox_setBox])
   | (have hn : ¬ (rdNum bs s).1 < 0 := by simpa using c0
      simp [frame0, rdManyA, hn])
 rintro F H' ⟨g0, g4, rfl⟩
 refine T_mid (fun F H' => F 0 = .ptr id 1 0 0 ∧ F 4 = pi (rdNum bs s).1 ∧ H' = H.setBox id [rrow bs c (rdManyB bs s)]) ?_ ?_
 refine T_mid (fun F H' => F 0 = .ptr id 1 0 0 ∧ F 4 = pi (rdNum bs s).1 ∧ F 34 = pb (decide ((rdManyA bs s).e = 0 ∧ (rdNum bs s).1 > ((bs.length - (rdManyA bs s).at' : Nat) : Int))) ∧ H' = H.setBox id [rrow bs c (rdManyA bs s)]) ?_ ?_
 · refine T_draw (fun i => i = id) [] (.free 0 (.free 1 (.free 2 (.free 3 (.free 4 (.free 5 (.free 6 (.free 7 (.free 8 (.free 9 (.free 10 (.free 11 (.free 12 (.free 13 (.free 14 (.free 15 (.free 16 (.free 17 (.free 18 .done))))))))))))))))))) mix ?_ ?_ ?_
   · kernel_rfl
   · kernel_rfl
   have hA2 := (hr.set hA).box
   by_cases he : (rdManyA bs s).e = 0 <;> simp [↓put_at, ↓AF.ev_tmp, ↓wk_free, ↓wk_sole, ↓wk_done, ↓wanted_none, Keeps, Same, ↓wk_move, ↓wk_nilCheck, ↓wk_fieldAddr, ↓wk_load, ↓wk_binOp, ↓AF.ev_int, ↓wanted_some, ↓wk_len, ↓wk_pick, ↓AF.ev_bool, aFieldAddr, aload, partOf, aBin, aBinV, aLen, frame0, g0, g4, hA2, rrow, int_beq, he, wsub (show (rdManyA bs s).at' ≤ bs.length from hA) hsm]
   all_goals simp_all
 rintro F H' ⟨g0, g4, g34, rfl⟩
 refine T_cond (by first | rfl | exact g0 | exact g4 | exact g0 | exact g4 | exact g34) (fun c1 => ?_) (fun c1 => ?_)
 refine T_rg ?_
 simp [↓put_at, ↓AF.ev_tmp, ↓ex_cons, ↓ex_nil, ↓ex_move, ↓ex_nilCheck, ↓ex_fieldAddr, ↓ex_load, ↓ex_len, ↓ex_call, ↓AF.ev_int, ↓AF.ev_func, aFieldAddr, aload, partOf, aLen, frame0, g0, g4, g0, g4, g34, (hr.set hA).box, rrow]
 refine callK.of (refuseIs _ id bs c _ (hr.set hA) _ _) ?_
 rintro _ H2 ⟨rfl, rfl⟩
 simp [↓put_at, ↓AF.ev_tmp, ↓ex_cons, ↓ex_nil, ↓ex_move, ↓ex_nilCheck, ↓ex_fieldAddr, ↓ex_load, ↓ex_len, ↓ex_call, ↓AF.ev_int, ↓AF.ev_func, aFieldAddr, aload, partOf, aLen, frame0, g0, g4, g0, g4, g34, (hr.set hA).box, rrow]
 first
   | (have hn := of_decide_eq_true c1
      unfold rdManyB; rw [if_pos hn]; simp_all [setBox_setBox])
   | (have hn := of_decide_eq_false c1
      unfold rdManyB; rw [if_neg hn]; simp_all)
 refine T_skip ?_
 try simp only [tN, bN, lN]
 first
   | (have hn := of_decide_eq_true c1
      unfold rdManyB; rw [if_pos hn]; simp_all [setBox_setBox])
   | (have hn := of_decide_eq_false c1
      unfold rdManyB; rw [if_neg hn]; simp_all)
 rintro F H' ⟨g0, g4, rfl⟩
 refine T_seqk fun K4 hK4 => ?_
 refine T_sr fun K5 hK5 => ?_
 simp [↓put_at, ↓AF.ev_tmp, ↓ex_cons, ↓ex_nil, ↓ex_move, ↓ex_nilCheck, ↓ex_fieldAddr, ↓ex_load, ↓ex_binOp, ↓AF.ev_int, aFieldAddr, aload, partOf, aBin, aBinV, frame0, g0, g4, g0, g4, (hr.set (rdManyB_le hle)).box, rrow, int_bne]
 refine hK5 _ _ ?_
 try clear hK5 K5
 refine T_cond (by first | rfl | exact g0 | exact g4 | exact g0 | exact g4) (fun c2 => ?_) (fun c2 => ?_)
 refine T_sr fun K6 hK6 => ?_
 simp [↓put_at, ↓AF.ev_tmp, ↓ex_cons, ↓ex_nil, ↓ex_assign, ↓AF.ev_int, frame0, g0, g4, g0, g4]
 refine hK6 _ _ ?_
 try clear hK6 K6
 refine T_ret ?_
 try simp only [tR, bR, lR]
 have he : ¬ (rdManyB bs s).e = 0 := by simpa using c2
 exact owes_one_at (.inr rfl) (hr.wf hwf _) (by simp) rfl (by simp [rdMany, he]) (.refl _) (by simp) (by simp)
 refine T_skip ?_
 try simp only [tN, bN, lN]
 refine hK4 _ _ ?_
 try clear hK4 K4
 refine T_sr fun K7 hK7 => ?_
 simp [↓put_at, ↓AF.ev_tmp, ↓ex_cons, ↓ex_nil, ↓ex_move, ↓ex_assign, frame0, g0, g4, g0, g4]
 refine hK7 _ _ ?_
 try clear hK7 K7
 refine T_ret ?_
 try simp only [tR, bR, lR]
 have he : (rdManyB bs s).e = 0 := by simpa using c2
 have hnn := (rdMany_nonneg he).1
 exact owes_one_at (.inr rfl) (hr.wf hwf _) (by simp) rfl (by simp [rdMany, he]; omega) (.refl _) (by simp) (by simp)
set_option maxRecDepth 100000 in
theorem textIs (H : AS) (id : Nat) (bs : List UInt8) (c : Nat) (s : RS) (hr : RdOk H id bs c s) : ACalls Tryz.prog 21 [.ptr id 1 0 0] H fun q H' => q = ps (rdText bs s).1 ∧ H' = H.setBox id [rrow bs c (rdText bs s).2] := by
 refine ACalls_intro Tryz.func21 rfl (by kernel_rfl) (by simp) fun hwf hbel => ?_
 have hle := hr.le
 have hsm := hr.small
 have hmm := rdMany_small (s := s) hle
 refine T_sr fun K0 hK0 => ?_
 simp [↓put_at, ↓AF.ev_tmp, ↓ex_cons, ↓ex_nil, ↓ex_assign, ↓AF.ev_string, frame0]
 refine hK0 _ _ ?_
 try clear hK0 K0
 refine T_sr fun K1 hK1 => ?_
 simp [↓put_at, ↓AF.ev_tmp, ↓ex_cons, ↓ex_nil, ↓ex_move, ↓ex_call, ↓AF.ev_func, ↓ex_convert, ↓ex_assign, frame0, conv_text, conv_none]
 refine callK.of (manyIs _ id bs c s hr) ?_
 rintro _ Hz ⟨rfl, hz⟩
 subst Hz
 simp [↓put_at, ↓AF.ev_tmp, ↓ex_cons, ↓ex_nil, ↓ex_move, ↓ex_call, ↓AF.ev_func, ↓ex_convert, ↓ex_assign, frame0, conv_text, conv_none]
 refine callK.of (takeIs _ id bs c _ (hr.set (rdMany_le hle)) _ (by omega)) ?_
 rintro _ H2 ⟨⟨d, rfl⟩, rfl⟩
 simp [↓put_at, ↓AF.ev_tmp, ↓ex_cons, ↓ex_nil, ↓ex_move, ↓ex_call, ↓AF.ev_func, ↓ex_convert, ↓ex_assign, frame0, conv_text, conv_none]
 refine hK1 _ _ ?_
 try clear hK1 K1
 refine T_ret ?_
 try simp only [tR, bR, lR]
 exact owes_one_at (.inr rfl) (hr.wf hwf (rdText bs s).2) (by simp) rfl rfl (by rw [setBox_setBox]; exact .refl _) (by simp) (by simp)
set_option maxRecDepth 100000 in
theorem truthIs (H : AS) (id : Nat) (bs : List UInt8) (c : Nat) (s : RS) (hr : RdOk H id bs c s) : ACalls Tryz.prog 55 [.ptr id 1 0 0] H fun q H' => q = pb (rdTruth bs s).1 ∧ H' = H.setBox id [rrow bs c (rdTruth bs s).2] := by
 refine ACalls_intro Tryz.func55 rfl (by kernel_rfl) (by simp) fun hwf hbel => ?_
 have hle := hr.le
 refine T_sr fun K0 hK0 => ?_
 simp [↓put_at, ↓AF.ev_tmp, ↓ex_cons, ↓ex_nil, ↓ex_assign, ↓AF.ev_bool, frame0]
 refine hK0 _ _ ?_
 try clear hK0 K0
 refine T_sr fun K1 hK1 => ?_
 simp [↓put_at, ↓AF.ev_tmp, ↓ex_cons, ↓ex_nil, ↓ex_move, ↓ex_nilCheck, ↓ex_fieldAddr, ↓ex_load, ↓ex_assign, aFieldAddr, aload, partOf, frame0, hr.box, rrow]
 refine hK1 _ _ ?_
 try clear hK1 K1
 refine T_sr fun K2 hK2 => ?_
 simp [↓put_at, ↓AF.ev_tmp, ↓ex_cons, ↓ex_nil, ↓ex_move, ↓ex_call, ↓AF.ev_func, ↓ex_assign, frame0]
 refine callK.of (byteIs _ id bs c s hr) ?_
 rintro _ Hz ⟨rfl, hz⟩
 subst Hz
 simp [↓put_at, ↓AF.ev_tmp, ↓ex_cons, ↓ex_nil, ↓ex_move, ↓ex_call, ↓AF.ev_func, ↓ex_assign, frame0]
 refine hK2 _ _ ?_
 try clear hK2 K2
 refine T_mid (fun F H' => F 4 = pi (rdByte bs s).1 ∧ H' = H.setBox id [rrow bs c (rdTruth bs s).2]) ?_ ?_
 refine T_sr fun K3 hK3 => ?_
 simp [↓put_at, ↓AF.ev_tmp, ↓ex_cons, ↓ex_nil, ↓ex_move, ↓ex_binOp, ↓AF.ev_int, aBin, aBinV, frame0]
 refine hK3 _ _ ?_
 try clear hK3 K3
 refine T_cond (rfl) (fun c0 => ?_) (fun c0 => ?_)
 refine T_rg ?_
 simp [↓put_at, ↓AF.ev_tmp, ↓ex_cons, ↓ex_nil, ↓ex_move, ↓ex_call, ↓AF.ev_int, ↓AF.ev_func, frame0]
 refine callK.of (refuseIs _ id bs c _ (hr.set (rdByte_le hle)) _ _) ?_
 rintro _ H2 ⟨rfl, rfl⟩
 simp [↓put_at, ↓AF.ev_tmp, ↓ex_cons, ↓ex_nil, ↓ex_move, ↓ex_call, ↓AF.ev_int, ↓AF.ev_func, frame0]
 first
   | (have hn : (rdByte bs s).1 > 1 := by simpa using c0
      simp [rdTruth, hn, setBox_setBox])
   | (have hn : ¬ (rdByte bs s).1 > 1 := by simpa using c0
      simp [rdTruth, hn])
 refine T_skip ?_
 try simp only [tN, bN, lN]
 first
   | (have hn : (rdByte bs s).1 > 1 := by simpa using c0
      simp [rdTruth, hn, setBox_setBox])
   | (have hn : ¬ (rdByte bs s).1 > 1 := by simpa using c0
      simp [rdTruth, hn])
 rintro F H' ⟨g4, rfl⟩
 refine T_sr fun K4 hK4 => ?_
 simp [↓put_at, ↓AF.ev_tmp, ↓ex_cons, ↓ex_nil, ↓ex_move, ↓ex_binOp, ↓AF.ev_int, ↓ex_assign, aBin, aBinV, frame0, g4, int_beq]
 refine hK4 _ _ ?_
 try clear hK4 K4
 refine T_ret ?_
 try simp only [tR, bR, lR]
 exact owes_one_at (.inr rfl) (hr.wf hwf _) (by simp) rfl rfl (.refl _) (by simp) (by simp)
end Go.Abs
namespace Go.Abs
open Go.Proofs
set_option autoImplicit false
set_option linter.all false
structure Rdg (H H' : AS) (id : Nat) (bs : List UInt8) (c : Nat) (s : RS) : Prop where
  ok : RdOk H' id bs c s
  ext : (H.setBox id [rrow bs c s]).Ext H'
theorem Rdg.start {H : AS} {id : Nat} {bs : List UInt8} {c : Nat} {s : RS} (h : RdOk H id bs c s) : Rdg H H id bs c s := ⟨h, by rw [h.same]; exact .refl _⟩
theorem Rdg.step {H H' : AS} {id : Nat} {bs : List UInt8} {c : Nat} {s s' : RS} (h : Rdg H H' id bs c s) (hle : s'.at' ≤ bs.length) : Rdg H (H'.setBox id [rrow bs c s']) id bs c s' :=
  ⟨h.ok.set hle, ⟨h.ext.next, fun j hj => by
    by_cases e : j = id
    · subst e; simp
    · have := h.ext.box j hj
      simp only [box_setBox, e, if_false] at this ⊢; exact this, fun j hj => h.ext.mp j hj, h.ext.color⟩⟩
theorem Rdg.other {H H' : AS} {id : Nat} {bs : List UInt8} {c : Nat} {s : RS} {j : Nat} {rows : List (List PV)} (h : Rdg H H' id bs c s) (hj : H.next ≤ j) (hid : id < H.next) : Rdg H (H'.setBox j rows) id bs c s :=
  ⟨⟨by rw [box_setBox, if_neg (by omega)]; exact h.ok.box, h.ok.le, h.ok.small⟩, h.ext.setBox hj⟩
theorem Rdg.bump {H H' : AS} {id : Nat} {bs : List UInt8} {c : Nat} {s : RS} {n : Nat} (h : Rdg H H' id bs c s) : Rdg H (H'.bump n) id bs c s := ⟨⟨h.ok.box, h.ok.le, h.ok.small⟩, h.ext.bump⟩
theorem byte_small (bs : List UInt8) (s : RS) : 0 ≤ (rdByte bs s).1 ∧ (rdByte bs s).1 < 256 := by
 have := ((rdTake bs 1 s).1.head?.getD 0).toNat_lt
 unfold rdByte; dsimp only; omega
theorem conv_kind (bs : List UInt8) (s : RS) : aConvert Tryz.prog 3 39 (pi (rdByte bs s).1) = some (.val (.int .u8 (rdByte bs s).1)) := by
 have := byte_small bs s
 simp [aConvert]; exact wrap_u8 this.1 this.2
def rdVal (bs : List UInt8) (s : RS) : DVal × RS :=
  ({ kind := (rdByte bs s).1, bits := IntKind.u64.wrap (rdNum bs (rdByte bs s).2).1, text := (rdText bs (rdNum bs (rdByte bs s).2).2).1 }, (rdText bs (rdNum bs (rdByte bs s).2).2).2)
theorem rdVal_le {bs : List UInt8} {s : RS} (h : s.at' ≤ bs.length) : (rdVal bs s).2.at' ≤ bs.length := rdText_le (rdNum_le (rdByte_le h))
def rdLoop (bs : List UInt8) (s : RS) : DLoop × RS :=
  ({ head := (rdNum bs s).1, stop := (rdNum bs (rdNum bs s).2).1, times := (rdNum bs (rdNum bs (rdNum bs s).2).2).1 }, (rdNum bs (rdNum bs (rdNum bs s).2).2).2)
theorem rdLoop_le {bs : List UInt8} {s : RS} (h : s.at' ≤ bs.length) : (rdLoop bs s).2.at' ≤ bs.length := rdNum_le (rdNum_le (rdNum_le h))
set_option maxRecDepth 100000 in
theorem valueIs (H : AS) (id : Nat) (bs : List UInt8) (c : Nat) (s : RS) (hr : RdOk H id bs c s) : ACalls Tryz.prog 57 [.ptr id 1 0 0] H fun q H' => q = .agg (rdVal bs s).1.row ∧ H' = H.setBox id [rrow bs c (rdVal bs s).2] := by
 refine ACalls_intro Tryz.func57 rfl (by kernel_rfl) (by simp) fun hwf hbel => ?_
 have hid := hr.lt hwf
 have hx0 : ¬ H.next = id := by omega
 have hx1 : ¬ H.next + 1 = id := by omega
 have hy0 : ¬ id = H.next := by omega
 have hy1 : ¬ id = H.next + 1 := by omega
 refine T_mid (fun F H' => F 0 = .ptr id 1 0 0 ∧ F 2 = .ptr H.next 1 0 0 ∧ Rdg H H' id bs c s ∧ H'.box H.next = some [[.val (.int .u8 0), .val (.int .u64 0), .val (.string ⟨#[]⟩)]] ∧ H'.next = H.next + 1) ?_ ?_
 refine T_rg ?_
 simp [↓put_at, ↓AF.ev_tmp, ↓ex_cons, ↓ex_nil, ↓ex_alloc, aalloc, frame0, hx0, hx1, hy0, hy1]
 exact ((Rdg.start hr).other (Nat.le_refl _) hid).bump
 rintro F H' ⟨g0, g2, hg, b2, hn⟩
 refine T_mid (fun F H' => F 0 = .ptr id 1 0 0 ∧ F 2 = .ptr H.next 1 0 0 ∧ F 3 = .ptr (H.next + 1) 1 0 0 ∧ Rdg H H' id bs c (rdByte bs s).2 ∧ H'.box H.next = some [[.val (.int .u8 0), .val (.int .u64 0), .val (.string ⟨#[]⟩)]] ∧ H'.box (H.next + 1) = some [[.val (.int .u8 (rdByte bs s).1), .val (.int .u64 0), .val (.string ⟨#[]⟩)]] ∧ H'.next = H.next + 2) ?_ ?_
 refine T_rg ?_
 simp [↓put_at, ↓AF.ev_tmp, ↓ex_cons, ↓ex_nil, ↓ex_move, ↓ex_call, ↓AF.ev_func, ↓ex_convert, ↓ex_build, ↓ex_alloc, ↓ex_store, aBuild, aBuild.go, splice, aalloc, astore, frame0, hx0, hx1, hy0, hy1, g0, g2, hn, b2, conv_kind]
 refine callK.of (byteIs _ id bs c _ hg.ok) ?_
 rintro _ H2 ⟨rfl, rfl⟩
 simp [↓put_at, ↓AF.ev_tmp, ↓ex_cons, ↓ex_nil, ↓ex_move, ↓ex_call, ↓AF.ev_func, ↓ex_convert, ↓ex_build, ↓ex_alloc, ↓ex_store, aBuild, aBuild.go, splice, aalloc, astore, frame0, hx0, hx1, hy0, hy1, g0, g2, hn, b2, conv_kind]
 exact ((((hg.step (rdByte_le hr.le)).other (by omega) hid).bump).other (by omega) hid)
 rintro F H' ⟨g0, g2, g3, hg, b2, b3, hn⟩
 refine T_mid (fun F H' => F 0 = .ptr id 1 0 0 ∧ F 2 = .ptr H.next 1 0 0 ∧ F 3 = .ptr (H.next + 1) 1 0 0 ∧ Rdg H H' id bs c (rdNum bs (rdByte bs s).2).2 ∧ H'.box H.next = some [[.val (.int .u8 0), .val (.int .u64 0), .val (.string ⟨#[]⟩)]] ∧ H'.box (H.next + 1) = some [[.val (.int .u8 (rdByte bs s).1), .val (.int .u64 (IntKind.u64.wrap (rdNum bs (rdByte bs s).2).1)), .val (.string ⟨#[]⟩)]] ∧ H'.next = H.next + 2) ?_ ?_
 refine T_rg ?_
 simp [↓put_at, ↓AF.ev_tmp, ↓ex_cons, ↓ex_nil, ↓ex_move, ↓ex_call, ↓AF.ev_func, ↓ex_convert, ↓ex_fieldAddr, ↓ex_store, aConvert, aFieldAddr, astore, splice, frame0, hx0, hx1, hy0, hy1, g0, g2, g0, g2, g3, hn, b2, b3, aConvert]
 refine callK.of (numIs _ id bs c _ hg.ok) ?_
 rintro _ H2 ⟨rfl, rfl⟩
 simp [↓put_at, ↓AF.ev_tmp, ↓ex_cons, ↓ex_nil, ↓ex_move, ↓ex_call, ↓AF.ev_func, ↓ex_convert, ↓ex_fieldAddr, ↓ex_store, aConvert, aFieldAddr, astore, splice, frame0, hx0, hx1, hy0, hy1, g0, g2, g0, g2, g3, hn, b2, b3, aConvert]
 exact (hg.step (rdNum_le (rdByte_le hr.le))).other (by omega) hid
 rintro F H' ⟨g0, g2, g3, hg, b2, b3, hn⟩
 refine T_mid (fun F H' => F 0 = .ptr id 1 0 0 ∧ F 2 = .ptr H.next 1 0 0 ∧ F 3 = .ptr (H.next + 1) 1 0 0 ∧ Rdg H H' id bs c (rdText bs (rdNum bs (rdByte bs s).2).2).2 ∧ H'.box H.next = some [[.val (.int .u8 0), .val (.int .u64 0), .val (.string ⟨#[]⟩)]] ∧ H'.box (H.next + 1) = some [(rdVal bs s).1.row] ∧ H'.next = H.next + 2) ?_ ?_
 refine T_rg ?_
 simp [↓put_at, ↓AF.ev_tmp, ↓ex_cons, ↓ex_nil, ↓ex_move, ↓ex_call, ↓AF.ev_func, ↓ex_fieldAddr, ↓ex_store, aFieldAddr, astore, splice, frame0, hx0, hx1, hy0, hy1, g0, g2, g0, g2, g3, g0, g2, g3, hn, b2, b3, rdVal, DVal.row]
 refine callK.of (textIs _ id bs c _ hg.ok) ?_
 rintro _ H2 ⟨rfl, rfl⟩
 simp [↓put_at, ↓AF.ev_tmp, ↓ex_cons, ↓ex_nil, ↓ex_move, ↓ex_call, ↓AF.ev_func, ↓ex_fieldAddr, ↓ex_store, aFieldAddr, astore, splice, frame0, hx0, hx1, hy0, hy1, g0, g2, g0, g2, g3, g0, g2, g3, hn, b2, b3, rdVal, DVal.row]
 exact (hg.step (rdText_le (rdNum_le (rdByte_le hr.le)))).other (by omega) hid
 rintro F H' ⟨g0, g2, g3, hg, b2, b3, hn⟩
 refine T_sr fun K0 hK0 => ?_
 simp [↓put_at, ↓AF.ev_tmp, ↓ex_cons, ↓ex_nil, ↓ex_load, ↓ex_store, aload, partOf, astore, splice, frame0, hx0, hx1, hy0, hy1, g0, g2, g0, g2, g3, g0, g2, g3, g0, g2, g3, b2, b3, DVal.row]
 refine hK0 _ _ ?_
 try clear hK0 K0
 refine T_ret ?_
 try simp only [tR, bR, lR]
 refine owes_one_at (H1 := H.setBox id [rrow bs c (rdVal bs s).2]) (.inr rfl) (hr.wf hwf _) (by simp) (by rw [show Tryz.f57.results.toList = [.cell 2 42] from rfl]; simp [aResults, aload, partOf, g2]; rfl) rfl (hg.ext.setBox (Nat.le_refl _)) (by simp [DVal.row]) (by simp [DVal.row])
set_option maxRecDepth 100000 in
theorem loopIs (H : AS) (id : Nat) (bs : List UInt8) (c : Nat) (s : RS) (hr : RdOk H id bs c s) : ACalls Tryz.prog 61 [.ptr id 1 0 0] H fun q H' => q = .agg (rdLoop bs s).1.row ∧ H' = H.setBox id [rrow bs c (rdLoop bs s).2] := by
 refine ACalls_intro Tryz.func61 rfl (by kernel_rfl) (by simp) fun hwf hbel => ?_
 have hid := hr.lt hwf
 have hx0 : ¬ H.next = id := by omega
 have hx1 : ¬ H.next + 1 = id := by omega
 have hy0 : ¬ id = H.next := by omega
 have hy1 : ¬ id = H.next + 1 := by omega
 refine T_mid (fun F H' => F 0 = .ptr id 1 0 0 ∧ F 2 = .ptr H.next 1 0 0 ∧ Rdg H H' id bs c s ∧ H'.box H.next = some [[pi 0, pi 0, pi 0]] ∧ H'.next = H.next + 1) ?_ ?_
 refine T_rg ?_
 simp [↓put_at, ↓AF.ev_tmp, ↓ex_cons, ↓ex_nil, ↓ex_alloc, aalloc, frame0, hx0, hx1, hy0, hy1]
 exact ((Rdg.start hr).other (Nat.le_refl _) hid).bump
 rintro F H' ⟨g0, g2, hg, b2, hn⟩
 refine T_mid (fun F H' => F 0 = .ptr id 1 0 0 ∧ F 2 = .ptr H.next 1 0 0 ∧ F 3 = .ptr (H.next + 1) 1 0 0 ∧ Rdg H H' id bs c s ∧ H'.box H.next = some [[pi 0, pi 0, pi 0]] ∧ H'.box (H.next + 1) = some [[pi 0, pi 0, pi 0]] ∧ H'.next = H.next + 2) ?_ ?_
 refine T_rg ?_
 simp [↓put_at, ↓AF.ev_tmp, ↓ex_cons, ↓ex_nil, ↓ex_alloc, aalloc, frame0, hx0, hx1, hy0, hy1, g0, g2, hn, b2]
 exact (hg.other (by omega) hid).bump
 rintro F H' ⟨g0, g2, g3, hg, b2, b3, hn⟩
 refine T_mid (fun F H' => F 0 = .ptr id 1 0 0 ∧ F 2 = .ptr H.next 1 0 0 ∧ F 3 = .ptr (H.next + 1) 1 0 0 ∧ Rdg H H' id bs c (rdNum bs s).2 ∧ H'.box H.next = some [[pi 0, pi 0, pi 0]] ∧ H'.box (H.next + 1) = some [[pi (rdNum bs s).1, pi 0, pi 0]] ∧ H'.next = H.next + 2) ?_ ?_
 refine T_rg ?_
 simp [↓put_at, ↓AF.ev_tmp, ↓ex_cons, ↓ex_nil, ↓ex_move, ↓ex_call, ↓AF.ev_func, ↓ex_fieldAddr, ↓ex_store, aFieldAddr, astore, splice, frame0, hx0, hx1, hy0, hy1, g0, g2, g0, g2, g3, hn, b2, b3]
 refine callK.of (numIs _ id bs c _ hg.ok) ?_
 rintro _ H2 ⟨rfl, rfl⟩
 simp [↓put_at, ↓AF.ev_tmp, ↓ex_cons, ↓ex_nil, ↓ex_move, ↓ex_call, ↓AF.ev_func, ↓ex_fieldAddr, ↓ex_store, aFieldAddr, astore, splice, frame0, hx0, hx1, hy0, hy1, g0, g2, g0, g2, g3, hn, b2, b3]
 exact (hg.step (rdNum_le hr.le)).other (by omega) hid
 rintro F H' ⟨g0, g2, g3, hg, b2, b3, hn⟩
 refine T_mid (fun F H' => F 0 = .ptr id 1 0 0 ∧ F 2 = .ptr H.next 1 0 0 ∧ F 3 = .ptr (H.next + 1) 1 0 0 ∧ Rdg H H' id bs c (rdNum bs (rdNum bs s).2).2 ∧ H'.box H.next = some [[pi 0, pi 0, pi 0]] ∧ H'.box (H.next + 1) = some [[pi (rdNum bs s).1, pi (rdNum bs (rdNum bs s).2).1, pi 0]] ∧ H'.next = H.next + 2) ?_ ?_
 refine T_rg ?_
 simp [↓put_at, ↓AF.ev_tmp, ↓ex_cons, ↓ex_nil, ↓ex_move, ↓ex_call, ↓AF.ev_func, ↓ex_fieldAddr, ↓ex_store, aFieldAddr, astore, splice, frame0, hx0, hx1, hy0, hy1, g0, g2, g0, g2, g3, g0, g2, g3, hn, b2, b3]
 refine callK.of (numIs _ id bs c _ hg.ok) ?_
 rintro _ H2 ⟨rfl, rfl⟩
 simp [↓put_at, ↓AF.ev_tmp, ↓ex_cons, ↓ex_nil, ↓ex_move, ↓ex_call, ↓AF.ev_func, ↓ex_fieldAddr, ↓ex_store, aFieldAddr, astore, splice, frame0, hx0, hx1, hy0, hy1, g0, g2, g0, g2, g3, g0, g2, g3, hn, b2, b3]
 exact (hg.step (rdNum_le (rdNum_le hr.le))).other (by omega) hid
 rintro F H' ⟨g0, g2, g3, hg, b2, b3, hn⟩
 refine T_mid (fun F H' => F 0 = .ptr id 1 0 0 ∧ F 2 = .ptr H.next 1 0 0 ∧ F 3 = .ptr (H.next + 1) 1 0 0 ∧ Rdg H H' id bs c (rdNum bs (rdNum bs (rdNum bs s).2).2).2 ∧ H'.box H.next = some [[pi 0, pi 0, pi 0]] ∧ H'.box (H.next + 1) = some [(rdLoop bs s).1.row] ∧ H'.next = H.next + 2) ?_ ?_
 refine T_rg ?_
 simp [↓put_at, ↓AF.ev_tmp, ↓ex_cons, ↓ex_nil, ↓ex_move, ↓ex_call, ↓AF.ev_func, ↓ex_fieldAddr, ↓ex_store, aFieldAddr, astore, splice, frame0, hx0, hx1, hy0, hy1, g0, g2, g0, g2, g3, g0, g2, g3, g0, g2, g3, hn, b2, b3, rdLoop, DLoop.row]
 refine callK.of (numIs _ id bs c _ hg.ok) ?_
 rintro _ H2 ⟨rfl, rfl⟩
 simp [↓put_at, ↓AF.ev_tmp, ↓ex_cons, ↓ex_nil, ↓ex_move, ↓ex_call, ↓AF.ev_func, ↓ex_fieldAddr, ↓ex_store, aFieldAddr, astore, splice, frame0, hx0, hx1, hy0, hy1, g0, g2, g0, g2, g3, g0, g2, g3, g0, g2, g3, hn, b2, b3, rdLoop, DLoop.row]
 exact (hg.step (rdNum_le (rdNum_le (rdNum_le hr.le)))).other (by omega) hid
 rintro F H' ⟨g0, g2, g3, hg, b2, b3, hn⟩
 refine T_sr fun K0 hK0 => ?_
 simp [↓put_at, ↓AF.ev_tmp, ↓ex_cons, ↓ex_nil, ↓ex_load, ↓ex_store, aload, partOf, astore, splice, frame0, hx0, hx1, hy0, hy1, g0, g2, g0, g2, g3, g0, g2, g3, g0, g2, g3, g0, g2, g3, b2, b3, DLoop.row]
 refine hK0 _ _ ?_
 try clear hK0 K0
 refine T_ret ?_
 try simp only [tR, bR, lR]
 refine owes_one_at (H1 := H.setBox id [rrow bs c (rdLoop bs s).2]) (.inr rfl) (hr.wf hwf _) (by simp) (by rw [show Tryz.f61.results.toList = [.cell 2 52] from rfl]; simp [aResults, aload, partOf, g2]; rfl) rfl (hg.ext.setBox (Nat.le_refl _)) (by simp [DLoop.row]) (by simp [DLoop.row])
end Go.Abs
namespace Go.Abs
open Go.Proofs
set_option autoImplicit false
set_option linter.all false
def rdCell (bs : List UInt8) (s : RS) : DCell × RS :=
  ({ kind := (rdByte bs s).1, sub := (rdTruth bs (rdByte bs s).2).1, lo := (rdNum bs (rdTruth bs (rdByte bs s).2).2).1, hi := (rdNum bs (rdNum bs (rdTruth bs (rdByte bs s).2).2).2).1, max := (rdNum bs (rdNum bs (rdNum bs (rdTruth bs (rdByte bs s).2).2).2).2).1, init := (rdVal bs (rdNum bs (rdNum bs (rdNum bs (rdTruth bs (rdByte bs s).2).2).2).2).2).1, keep := (rdTruth bs (rdVal bs (rdNum bs (rdNum bs (rdNum bs (rdTruth bs (rdByte bs s).2).2).2).2).2).2).1, dir := (rdByte bs (rdTruth bs (rdVal bs (rdNum bs (rdNum bs (rdNum bs (rdTruth bs (rdByte bs s).2).2).2).2).2).2).2).1, addr := (rdText bs (rdByte bs (rdTruth bs (rdVal bs (rdNum bs (rdNum bs (rdNum bs (rdTruth bs (rdByte bs s).2).2).2).2).2).2).2).2).1 }, (rdText bs (rdByte bs (rdTruth bs (rdVal bs (rdNum bs (rdNum bs (rdNum bs (rdTruth bs (rdByte bs s).2).2).2).2).2).2).2).2).2)
theorem rdCell_le {bs : List UInt8} {s : RS} (h : s.at' ≤ bs.length) : (rdCell bs s).2.at' ≤ bs.length := (rdText_le (rdByte_le (rdTruth_le (rdVal_le (rdNum_le (rdNum_le (rdNum_le (rdTruth_le (rdByte_le h)))))))))
def rdNums (bs : List UInt8) : Nat → RS → List Int × RS
  | 0, s => ([], s)
  | n + 1, s => ((rdNums bs n s).1 ++ [(rdNum bs (rdNums bs n s).2).1], (rdNum bs (rdNums bs n s).2).2)
theorem rdNums_le {bs : List UInt8} {n : Nat} {s : RS} (h : s.at' ≤ bs.length) : (rdNums bs n s).2.at' ≤ bs.length := by
  induction n with
  | zero => exact h
  | succ n ih => exact rdNum_le ih
@[simp] theorem rdNums_length {bs : List UInt8} {n : Nat} {s : RS} : (rdNums bs n s).1.length = n := by
  induction n with
  | zero => rfl
  | succ n ih => simp [rdNums, ih]
def prow (pre : List PV) (n : Nat) (nums : List Int) (post : List PV) : List PV := pre ++ (nums.map (fun x => pi x) ++ (List.replicate (n - nums.length) (pi 0) ++ post))
theorem prow_length {pre : List PV} {n : Nat} {nums : List Int} {post : List PV} (h : nums.length ≤ n) : (prow pre n nums post).length = pre.length + n + post.length := by simp [prow]; omega
theorem prow_step {pre : List PV} {n i o : Nat} {nums : List Int} {post : List PV} (hi : nums.length = i) (ho : pre.length = o) (h : i < n) (x : Int) : splice (prow pre n nums post) (o + i) [pi x] = prow pre n (nums ++ [x]) post := by
 subst hi; subst ho
 unfold splice prow
 rw [show n - nums.length = (n - (nums.length + 1)) + 1 by omega, List.replicate_succ]
 have e1 : (pre ++ (nums.map (fun x => pi x) ++ (pi 0 :: List.replicate (n - (nums.length + 1)) (pi 0) ++ post))).take (pre.length + nums.length) = pre ++ nums.map (fun x => pi x) := by
   rw [← List.append_assoc, List.take_left' (by simp)]
 have e2 : (pre ++ (nums.map (fun x => pi x) ++ (pi 0 :: List.replicate (n - (nums.length + 1)) (pi 0) ++ post))).drop (pre.length + nums.length + 1) = List.replicate (n - (nums.length + 1)) (pi 0) ++ post := by
   rw [← List.append_assoc, List.drop_append, List.drop_eq_nil_of_le (by simp)]
   simp
 simp only [List.length_singleton]
 rw [e1, e2]
 simp
def ptrs (id o n : Nat) : List (List PV) := (List.range n).map fun k => [.ptr id 1 0 (o + k)]
@[simp] theorem ptrs_length (id o n : Nat) : (ptrs id o n).length = n := by simp [ptrs]
theorem ptrs_get {id o n i : Nat} (h : i < n) : (ptrs id o n)[i]? = some [.ptr id 1 0 (o + i)] := by simp [ptrs, h]
@[simp] theorem frozen_ptr (id vl row off : Nat) : Frozen (.ptr id vl row off) := trivial
theorem list7 {l : List Int} (h : l.length = 7) : l = [l.getD 0 0, l.getD 1 0, l.getD 2 0, l.getD 3 0, l.getD 4 0, l.getD 5 0, l.getD 6 0] := by
  match l, h with
  | [_, _, _, _, _, _, _], _ => rfl
theorem list5 {l : List Int} (h : l.length = 5) : l = [l.getD 0 0, l.getD 1 0, l.getD 2 0, l.getD 3 0, l.getD 4 0] := by
  match l, h with
  | [_, _, _, _, _], _ => rfl
theorem list3 {l : List Int} (h : l.length = 3) : l = [l.getD 0 0, l.getD 1 0, l.getD 2 0] := by
  match l, h with
  | [_, _, _], _ => rfl
def rdOp (bs : List UInt8) (s : RS) : DOp × RS :=
  let l := rdNums bs 7 s
  let v := rdVal bs l.2
  ({ code := l.1.getD 0 0, a := l.1.getD 1 0, b := l.1.getD 2 0, c := l.1.getD 3 0, d := l.1.getD 4 0, lo := l.1.getD 5 0, hi := l.1.getD 6 0, value := v.1 }, v.2)
theorem rdOp_le {bs : List UInt8} {s : RS} (h : s.at' ≤ bs.length) : (rdOp bs s).2.at' ≤ bs.length := rdVal_le (rdNums_le h)
theorem part_ptr (p : PV) (h : p.atomic = true) : partOf Tryz.prog 105 [p] 0 = some p := by simp [partOf]
set_option maxRecDepth 100000 in
theorem cellIs (H : AS) (id : Nat) (bs : List UInt8) (c : Nat) (s : RS) (hr : RdOk H id bs c s) : ACalls Tryz.prog 23 [.ptr id 1 0 0] H fun q H' => q = .agg (rdCell bs s).1.row ∧ H' = H.setBox id [rrow bs c (rdCell bs s).2] := by
 refine ACalls_intro Tryz.func23 rfl (by kernel_rfl) (by simp) fun hwf hbel => ?_
 have hid := hr.lt hwf
 have hx0 : ¬ H.next = id := by omega
 have hx1 : ¬ H.next + 1 = id := by omega
 have hy0 : ¬ id = H.next := by omega
 have hy1 : ¬ id = H.next + 1 := by omega
 refine T_mid (fun F H' => F 0 = .ptr id 1 0 0 ∧ F 2 = .ptr H.next 1 0 0 ∧ Rdg H H' id bs c s ∧ H'.box H.next = some [[.val (.int .u8 0), .val (.bool false), pi 0, pi 0, pi 0, .val (.int .u8 0), .val (.int .u64 0), .val (.string ⟨#[]⟩), .val (.bool false), pi 0, .val (.string ⟨#[]⟩)]] ∧ H'.next = H.next + 1) ?_ ?_
 refine T_rg ?_
 simp [↓put_at, ↓AF.ev_tmp, ↓ex_cons, ↓ex_nil, ↓ex_alloc, aalloc, frame0, hx0, hx1, hy0, hy1]
 exact ((Rdg.start hr).other (Nat.le_refl _) hid).bump
 rintro F H' ⟨g0, g2, hg, b2, hn⟩
 refine T_mid (fun F H' => F 0 = .ptr id 1 0 0 ∧ F 2 = .ptr H.next 1 0 0 ∧ F 3 = .ptr (H.next + 1) 1 0 0 ∧ Rdg H H' id bs c (rdByte bs s).2 ∧ H'.box H.next = some [[.val (.int .u8 0), .val (.bool false), pi 0, pi 0, pi 0, .val (.int .u8 0), .val (.int .u64 0), .val (.string ⟨#[]⟩), .val (.bool false), pi 0, .val (.string ⟨#[]⟩)]] ∧ H'.box (H.next + 1) = some [[.val (.int .u8 (rdByte bs s).1), .val (.bool false), pi 0, pi 0, pi 0, .val (.int .u8 0), .val (.int .u64 0), .val (.string ⟨#[]⟩), .val (.bool false), pi 0, .val (.string ⟨#[]⟩)]] ∧ H'.next = H.next + 2) ?_ ?_
 refine T_rg ?_
 simp [↓put_at, ↓AF.ev_tmp, ↓ex_cons, ↓ex_nil, ↓ex_move, ↓ex_call, ↓AF.ev_func, ↓ex_convert, ↓ex_build, ↓ex_alloc, ↓ex_store, aBuild, aBuild.go, splice, aalloc, astore, frame0, hx0, hx1, hy0, hy1, g0, g2, hn, b2, conv_kind]
 refine callK.of (byteIs _ id bs c _ hg.ok) ?_
 rintro _ H2 ⟨rfl, rfl⟩
 simp [↓put_at, ↓AF.ev_tmp, ↓ex_cons, ↓ex_nil, ↓ex_move, ↓ex_call, ↓AF.ev_func, ↓ex_convert, ↓ex_build, ↓ex_alloc, ↓ex_store, aBuild, aBuild.go, splice, aalloc, astore, frame0, hx0, hx1, hy0, hy1, g0, g2, hn, b2, conv_kind]
 exact ((((hg.step (rdByte_le hr.le)).other (by omega) hid).bump).other (by omega) hid)
 rintro F H' ⟨g0, g2, g3, hg, b2, b3, hn⟩
 refine T_mid (fun F H' => F 0 = .ptr id 1 0 0 ∧ F 2 = .ptr H.next 1 0 0 ∧ F 3 = .ptr (H.next + 1) 1 0 0 ∧ Rdg H H' id bs c (rdTruth bs (rdByte bs s).2).2 ∧ H'.box H.next = some [[.val (.int .u8 0), .val (.bool false), pi 0, pi 0, pi 0, .val (.int .u8 0), .val (.int .u64 0), .val (.string ⟨#[]⟩), .val (.bool false), pi 0, .val (.string ⟨#[]⟩)]] ∧ H'.box (H.next + 1) = some [[.val (.int .u8 (rdByte bs s).1), pb (rdTruth bs (rdByte bs s).2).1, pi 0, pi 0, pi 0, .val (.int .u8 0), .val (.int .u64 0), .val (.string ⟨#[]⟩), .val (.bool false), pi 0, .val (.string ⟨#[]⟩)]] ∧ H'.next = H.next + 2) ?_ ?_
 refine T_rg ?_
 simp [↓put_at, ↓AF.ev_tmp, ↓ex_cons, ↓ex_nil, ↓ex_move, ↓ex_call, ↓AF.ev_func, ↓ex_fieldAddr, ↓ex_store, aFieldAddr, astore, splice, frame0, hx0, hx1, hy0, hy1, g0, g2, g0, g2, g3, hn, b2, b3]
 refine callK.of (truthIs _ id bs c _ hg.ok) ?_
 rintro _ H2 ⟨rfl, rfl⟩
 simp [↓put_at, ↓AF.ev_tmp, ↓ex_cons, ↓ex_nil, ↓ex_move, ↓ex_call, ↓AF.ev_func, ↓ex_fieldAddr, ↓ex_store, aFieldAddr, astore, splice, frame0, hx0, hx1, hy0, hy1, g0, g2, g0, g2, g3, hn, b2, b3]
 exact (hg.step (rdTruth_le (rdByte_le hr.le))).other (by omega) hid
 rintro F H' ⟨g0, g2, g3, hg, b2, b3, hn⟩
 refine T_mid (fun F H' => F 0 = .ptr id 1 0 0 ∧ F 2 = .ptr H.next 1 0 0 ∧ F 3 = .ptr (H.next + 1) 1 0 0 ∧ Rdg H H' id bs c (rdNum bs (rdTruth bs (rdByte bs s).2).2).2 ∧ H'.box H.next = some [[.val (.int .u8 0), .val (.bool false), pi 0, pi 0, pi 0, .val (.int .u8 0), .val (.int .u64 0), .val (.string ⟨#[]⟩), .val (.bool false), pi 0, .val (.string ⟨#[]⟩)]] ∧ H'.box (H.next + 1) = some [[.val (.int .u8 (rdByte bs s).1), pb (rdTruth bs (rdByte bs s).2).1, pi (rdNum bs (rdTruth bs (rdByte bs s).2).2).1, pi 0, pi 0, .val (.int .u8 0), .val (.int .u64 0), .val (.string ⟨#[]⟩), .val (.bool false), pi 0, .val (.string ⟨#[]⟩)]] ∧ H'.next = H.next + 2) ?_ ?_
 refine T_rg ?_
 simp [↓put_at, ↓AF.ev_tmp, ↓ex_cons, ↓ex_nil, ↓ex_move, ↓ex_call, ↓AF.ev_func, ↓ex_fieldAddr, ↓ex_store, aFieldAddr, astore, splice, frame0, hx0, hx1, hy0, hy1, g0, g2, g0, g2, g3, g0, g2, g3, hn, b2, b3]
 refine callK.of (numIs _ id bs c _ hg.ok) ?_
 rintro _ H2 ⟨rfl, rfl⟩
 simp [↓put_at, ↓AF.ev_tmp, ↓ex_cons, ↓ex_nil, ↓ex_move, ↓ex_call, ↓AF.ev_func, ↓ex_fieldAddr, ↓ex_store, aFieldAddr, astore, splice, frame0, hx0, hx1, hy0, hy1, g0, g2, g0, g2, g3, g0, g2, g3, hn, b2, b3]
 exact (hg.step (rdNum_le (rdTruth_le (rdByte_le hr.le)))).other (by omega) hid
 rintro F H' ⟨g0, g2, g3, hg, b2, b3, hn⟩
 refine T_mid (fun F H' => F 0 = .ptr id 1 0 0 ∧ F 2 = .ptr H.next 1 0 0 ∧ F 3 = .ptr (H.next + 1) 1 0 0 ∧ Rdg H H' id bs c (rdNum bs (rdNum bs (rdTruth bs (rdByte bs s).2).2).2).2 ∧ H'.box H.next = some [[.val (.int .u8 0), .val (.bool false), pi 0, pi 0, pi 0, .val (.int .u8 0), .val (.int .u64 0), .val (.string ⟨#[]⟩), .val (.bool false), pi 0, .val (.string ⟨#[]⟩)]] ∧ H'.box (H.next + 1) = some [[.val (.int .u8 (rdByte bs s).1), pb (rdTruth bs (rdByte bs s).2).1, pi (rdNum bs (rdTruth bs (rdByte bs s).2).2).1, pi (rdNum bs (rdNum bs (rdTruth bs (rdByte bs s).2).2).2).1, pi 0, .val (.int .u8 0), .val (.int .u64 0), .val (.string ⟨#[]⟩), .val (.bool false), pi 0, .val (.string ⟨#[]⟩)]] ∧ H'.next = H.next + 2) ?_ ?_
 refine T_rg ?_
 simp [↓put_at, ↓AF.ev_tmp, ↓ex_cons, ↓ex_nil, ↓ex_move, ↓ex_call, ↓AF.ev_func, ↓ex_fieldAddr, ↓ex_store, aFieldAddr, astore, splice, frame0, hx0, hx1, hy0, hy1, g0, g2, g0, g2, g3, g0, g2, g3, g0, g2, g3, hn, b2, b3]
 refine callK.of (numIs _ id bs c _ hg.ok) ?_
 rintro _ H2 ⟨rfl, rfl⟩
 simp [↓put_at, ↓AF.ev_tmp, ↓ex_cons, ↓ex_nil, ↓ex_move, ↓ex_call, ↓AF.ev_func, ↓ex_fieldAddr, ↓ex_store, aFieldAddr, astore, splice, frame0, hx0, hx1, hy0, hy1, g0, g2, g0, g2, g3, g0, g2, g3, g0, g2, g3, hn, b2, b3]
 exact (hg.step (rdNum_le (rdNum_le (rdTruth_le (rdByte_le hr.le))))).other (by omega) hid
 rintro F H' ⟨g0, g2, g3, hg, b2, b3, hn⟩
 refine T_mid (fun F H' => F 0 = .ptr id 1 0 0 ∧ F 2 = .ptr H.next 1 0 0 ∧ F 3 = .ptr (H.next + 1) 1 0 0 ∧ Rdg H H' id bs c (rdNum bs (rdNum bs (rdNum bs (rdTruth bs (rdByte bs s).2).2).2).2).2 ∧ H'.box H.next = some [[.val (.int .u8 0), .val (.bool false), pi 0, pi 0, pi 0, .val (.int .u8 0), .val (.int .u64 0), .val (.string ⟨#[]⟩), .val (.bool false), pi 0, .val (.string ⟨#[]⟩)]] ∧ H'.box (H.next + 1) = some [[.val (.int .u8 (rdByte bs s).1), pb (rdTruth bs (rdByte bs s).2).1, pi (rdNum bs (rdTruth bs (rdByte bs s).2).2).1, pi (rdNum bs (rdNum bs (rdTruth bs (rdByte bs s).2).2).2).1, pi (rdNum bs (rdNum bs (rdNum bs (rdTruth bs (rdByte bs s).2).2).2).2).1, .val (.int .u8 0), .val (.int .u64 0), .val (.string ⟨#[]⟩), .val (.bool false), pi 0, .val (.string ⟨#[]⟩)]] ∧ H'.next = H.next + 2) ?_ ?_
 refine T_rg ?_
 simp [↓put_at, ↓AF.ev_tmp, ↓ex_cons, ↓ex_nil, ↓ex_move, ↓ex_call, ↓AF.ev_func, ↓ex_fieldAddr, ↓ex_store, aFieldAddr, astore, splice, frame0, hx0, hx1, hy0, hy1, g0, g2, g0, g2, g3, g0, g2, g3, g0, g2, g3, g0, g2, g3, hn, b2, b3]
 refine callK.of (numIs _ id bs c _ hg.ok) ?_
 rintro _ H2 ⟨rfl, rfl⟩
 simp [↓put_at, ↓AF.ev_tmp, ↓ex_cons, ↓ex_nil, ↓ex_move, ↓ex_call, ↓AF.ev_func, ↓ex_fieldAddr, ↓ex_store, aFieldAddr, astore, splice, frame0, hx0, hx1, hy0, hy1, g0, g2, g0, g2, g3, g0, g2, g3, g0, g2, g3, g0, g2, g3, hn, b2, b3]
 exact (hg.step (rdNum_le (rdNum_le (rdNum_le (rdTruth_le (rdByte_le hr.le)))))).other (by omega) hid
 rintro F H' ⟨g0, g2, g3, hg, b2, b3, hn⟩
 refine T_mid (fun F H' => F 0 = .ptr id 1 0 0 ∧ F 2 = .ptr H.next 1 0 0 ∧ F 3 = .ptr (H.next + 1) 1 0 0 ∧ Rdg H H' id bs c (rdVal bs (rdNum bs (rdNum bs (rdNum bs (rdTruth bs (rdByte bs s).2).2).2).2).2).2 ∧ H'.box H.next = some [[.val (.int .u8 0), .val (.bool false), pi 0, pi 0, pi 0, .val (.int .u8 0), .val (.int .u64 0), .val (.string ⟨#[]⟩), .val (.bool false), pi 0, .val (.string ⟨#[]⟩)]] ∧ H'.box (H.next + 1) = some [[.val (.int .u8 (rdByte bs s).1), pb (rdTruth bs (rdByte bs s).2).1, pi (rdNum bs (rdTruth bs (rdByte bs s).2).2).1, pi (rdNum bs (rdNum bs (rdTruth bs (rdByte bs s).2).2).2).1, pi (rdNum bs (rdNum bs (rdNum bs (rdTruth bs (rdByte bs s).2).2).2).2).1, .val (.int .u8 (rdVal bs (rdNum bs (rdNum bs (rdNum bs (rdTruth bs (rdByte bs s).2).2).2).2).2).1.kind), .val (.int .u64 (rdVal bs (rdNum bs (rdNum bs (rdNum bs (rdTruth bs (rdByte bs s).2).2).2).2).2).1.bits), ps (rdVal bs (rdNum bs (rdNum bs (rdNum bs (rdTruth bs (rdByte bs s).2).2).2).2).2).1.text, .val (.bool false), pi 0, .val (.string ⟨#[]⟩)]] ∧ H'.next = H.next + 2) ?_ ?_
 refine T_rg ?_
 simp [↓put_at, ↓AF.ev_tmp, ↓ex_cons, ↓ex_nil, ↓ex_move, ↓ex_call, ↓AF.ev_func, ↓ex_fieldAddr, ↓ex_store, aFieldAddr, astore, splice, frame0, hx0, hx1, hy0, hy1, g0, g2, g0, g2, g3, g0, g2, g3, g0, g2, g3, g0, g2, g3, g0, g2, g3, hn, b2, b3, DVal.row]
 refine callK.of (valueIs _ id bs c _ hg.ok) ?_
 rintro _ H2 ⟨rfl, rfl⟩
 simp [↓put_at, ↓AF.ev_tmp, ↓ex_cons, ↓ex_nil, ↓ex_move, ↓ex_call, ↓AF.ev_func, ↓ex_fieldAddr, ↓ex_store, aFieldAddr, astore, splice, frame0, hx0, hx1, hy0, hy1, g0, g2, g0, g2, g3, g0, g2, g3, g0, g2, g3, g0, g2, g3, g0, g2, g3, hn, b2, b3, DVal.row]
 exact (hg.step (rdVal_le (rdNum_le (rdNum_le (rdNum_le (rdTruth_le (rdByte_le hr.le))))))).other (by omega) hid
 rintro F H' ⟨g0, g2, g3, hg, b2, b3, hn⟩
 refine T_mid (fun F H' => F 0 = .ptr id 1 0 0 ∧ F 2 = .ptr H.next 1 0 0 ∧ F 3 = .ptr (H.next + 1) 1 0 0 ∧ Rdg H H' id bs c (rdTruth bs (rdVal bs (rdNum bs (rdNum bs (rdNum bs (rdTruth bs (rdByte bs s).2).2).2).2).2).2).2 ∧ H'.box H.next = some [[.val (.int .u8 0), .val (.bool false), pi 0, pi 0, pi 0, .val (.int .u8 0), .val (.int .u64 0), .val (.string ⟨#[]⟩), .val (.bool false), pi 0, .val (.string ⟨#[]⟩)]] ∧ H'.box (H.next + 1) = some [[.val (.int .u8 (rdByte bs s).1), pb (rdTruth bs (rdByte bs s).2).1, pi (rdNum bs (rdTruth bs (rdByte bs s).2).2).1, pi (rdNum bs (rdNum bs (rdTruth bs (rdByte bs s).2).2).2).1, pi (rdNum bs (rdNum bs (rdNum bs (rdTruth bs (rdByte bs s).2).2).2).2).1, .val (.int .u8 (rdVal bs (rdNum bs (rdNum bs (rdNum bs (rdTruth bs (rdByte bs s).2).2).2).2).2).1.kind), .val (.int .u64 (rdVal bs (rdNum bs (rdNum bs (rdNum bs (rdTruth bs (rdByte bs s).2).2).2).2).2).1.bits), ps (rdVal bs (rdNum bs (rdNum bs (rdNum bs (rdTruth bs (rdByte bs s).2).2).2).2).2).1.text, pb (rdTruth bs (rdVal bs (rdNum bs (rdNum bs (rdNum bs (rdTruth bs (rdByte bs s).2).2).2).2).2).2).1, pi 0, .val (.string ⟨#[]⟩)]] ∧ H'.next = H.next + 2) ?_ ?_
 refine T_rg ?_
 simp [↓put_at, ↓AF.ev_tmp, ↓ex_cons, ↓ex_nil, ↓ex_move, ↓ex_call, ↓AF.ev_func, ↓ex_fieldAddr, ↓ex_store, aFieldAddr, astore, splice, frame0, hx0, hx1, hy0, hy1, g0, g2, g0, g2, g3, g0, g2, g3, g0, g2, g3, g0, g2, g3, g0, g2, g3, g0, g2, g3, hn, b2, b3]
 refine callK.of (truthIs _ id bs c _ hg.ok) ?_
 rintro _ H2 ⟨rfl, rfl⟩
 simp [↓put_at, ↓AF.ev_tmp, ↓ex_cons, ↓ex_nil, ↓ex_move, ↓ex_call, ↓AF.ev_func, ↓ex_fieldAddr, ↓ex_store, aFieldAddr, astore, splice, frame0, hx0, hx1, hy0, hy1, g0, g2, g0, g2, g3, g0, g2, g3, g0, g2, g3, g0, g2, g3, g0, g2, g3, g0, g2, g3, hn, b2, b3]
 exact (hg.step (rdTruth_le (rdVal_le (rdNum_le (rdNum_le (rdNum_le (rdTruth_le (rdByte_le hr.le)))))))).other (by omega) hid
 rintro F H' ⟨g0, g2, g3, hg, b2, b3, hn⟩
 refine T_mid (fun F H' => F 0 = .ptr id 1 0 0 ∧ F 2 = .ptr H.next 1 0 0 ∧ F 3 = .ptr (H.next + 1) 1 0 0 ∧ Rdg H H' id bs c (rdByte bs (rdTruth bs (rdVal bs (rdNum bs (rdNum bs (rdNum bs (rdTruth bs (rdByte bs s).2).2).2).2).2).2).2).2 ∧ H'.box H.next = some [[.val (.int .u8 0), .val (.bool false), pi 0, pi 0, pi 0, .val (.int .u8 0), .val (.int .u64 0), .val (.string ⟨#[]⟩), .val (.bool false), pi 0, .val (.string ⟨#[]⟩)]] ∧ H'.box (H.next + 1) = some [[.val (.int .u8 (rdByte bs s).1), pb (rdTruth bs (rdByte bs s).2).1, pi (rdNum bs (rdTruth bs (rdByte bs s).2).2).1, pi (rdNum bs (rdNum bs (rdTruth bs (rdByte bs s).2).2).2).1, pi (rdNum bs (rdNum bs (rdNum bs (rdTruth bs (rdByte bs s).2).2).2).2).1, .val (.int .u8 (rdVal bs (rdNum bs (rdNum bs (rdNum bs (rdTruth bs (rdByte bs s).2).2).2).2).2).1.kind), .val (.int .u64 (rdVal bs (rdNum bs (rdNum bs (rdNum bs (rdTruth bs (rdByte bs s).2).2).2).2).2).1.bits), ps (rdVal bs (rdNum bs (rdNum bs (rdNum bs (rdTruth bs (rdByte bs s).2).2).2).2).2).1.text, pb (rdTruth bs (rdVal bs (rdNum bs (rdNum bs (rdNum bs (rdTruth bs (rdByte bs s).2).2).2).2).2).2).1, pi (rdByte bs (rdTruth bs (rdVal bs (rdNum bs (rdNum bs (rdNum bs (rdTruth bs (rdByte bs s).2).2).2).2).2).2).2).1, .val (.string ⟨#[]⟩)]] ∧ H'.next = H.next + 2) ?_ ?_
 refine T_rg ?_
 simp [↓put_at, ↓AF.ev_tmp, ↓ex_cons, ↓ex_nil, ↓ex_move, ↓ex_call, ↓AF.ev_func, ↓ex_fieldAddr, ↓ex_store, aFieldAddr, astore, splice, frame0, hx0, hx1, hy0, hy1, g0, g2, g0, g2, g3, g0, g2, g3, g0, g2, g3, g0, g2, g3, g0, g2, g3, g0, g2, g3, g0, g2, g3, hn, b2, b3]
 refine callK.of (byteIs _ id bs c _ hg.ok) ?_
 rintro _ H2 ⟨rfl, rfl⟩
 simp [↓put_at, ↓AF.ev_tmp, ↓ex_cons, ↓ex_nil, ↓ex_move, ↓ex_call, ↓AF.ev_func, ↓ex_fieldAddr, ↓ex_store, aFieldAddr, astore, splice, frame0, hx0, hx1, hy0, hy1, g0, g2, g0, g2, g3, g0, g2, g3, g0, g2, g3, g0, g2, g3, g0, g2, g3, g0, g2, g3, g0, g2, g3, hn, b2, b3]
 exact (hg.step (rdByte_le (rdTruth_le (rdVal_le (rdNum_le (rdNum_le (rdNum_le (rdTruth_le (rdByte_le hr.le))))))))).other (by omega) hid
 rintro F H' ⟨g0, g2, g3, hg, b2, b3, hn⟩
 refine T_mid (fun F H' => F 0 = .ptr id 1 0 0 ∧ F 2 = .ptr H.next 1 0 0 ∧ F 3 = .ptr (H.next + 1) 1 0 0 ∧ Rdg H H' id bs c (rdText bs (rdByte bs (rdTruth bs (rdVal bs (rdNum bs (rdNum bs (rdNum bs (rdTruth bs (rdByte bs s).2).2).2).2).2).2).2).2).2 ∧ H'.box H.next = some [[.val (.int .u8 0), .val (.bool false), pi 0, pi 0, pi 0, .val (.int .u8 0), .val (.int .u64 0), .val (.string ⟨#[]⟩), .val (.bool false), pi 0, .val (.string ⟨#[]⟩)]] ∧ H'.box (H.next + 1) = some [(rdCell bs s).1.row] ∧ H'.next = H.next + 2) ?_ ?_
 refine T_rg ?_
 simp [↓put_at, ↓AF.ev_tmp, ↓ex_cons, ↓ex_nil, ↓ex_move, ↓ex_call, ↓AF.ev_func, ↓ex_fieldAddr, ↓ex_store, aFieldAddr, astore, splice, frame0, hx0, hx1, hy0, hy1, g0, g2, g0, g2, g3, g0, g2, g3, g0, g2, g3, g0, g2, g3, g0, g2, g3, g0, g2, g3, g0, g2, g3, g0, g2, g3, hn, b2, b3, rdCell, DCell.row]
 refine callK.of (textIs _ id bs c _ hg.ok) ?_
 rintro _ H2 ⟨rfl, rfl⟩
 simp [↓put_at, ↓AF.ev_tmp, ↓ex_cons, ↓ex_nil, ↓ex_move, ↓ex_call, ↓AF.ev_func, ↓ex_fieldAddr, ↓ex_store, aFieldAddr, astore, splice, frame0, hx0, hx1, hy0, hy1, g0, g2, g0, g2, g3, g0, g2, g3, g0, g2, g3, g0, g2, g3, g0, g2, g3, g0, g2, g3, g0, g2, g3, g0, g2, g3, hn, b2, b3, rdCell, DCell.row]
 exact (hg.step (rdText_le (rdByte_le (rdTruth_le (rdVal_le (rdNum_le (rdNum_le (rdNum_le (rdTruth_le (rdByte_le hr.le)))))))))).other (by omega) hid
 rintro F H' ⟨g0, g2, g3, hg, b2, b3, hn⟩
 refine T_sr fun K0 hK0 => ?_
 simp [↓put_at, ↓AF.ev_tmp, ↓ex_cons, ↓ex_nil, ↓ex_load, ↓ex_store, aload, partOf, astore, splice, frame0, hx0, hx1, hy0, hy1, g0, g2, g0, g2, g3, g0, g2, g3, g0, g2, g3, g0, g2, g3, g0, g2, g3, g0, g2, g3, g0, g2, g3, g0, g2, g3, g0, g2, g3, b2, b3, DCell.row]
 refine hK0 _ _ ?_
 try clear hK0 K0
 refine T_ret ?_
 try simp only [tR, bR, lR]
 refine owes_one_at (H1 := H.setBox id [rrow bs c (rdCell bs s).2]) (.inr rfl) (hr.wf hwf _) (by simp) (by rw [show Tryz.f23.results.toList = [.cell 2 44] from rfl]; simp [aResults, aload, partOf, g2]; rfl) rfl (hg.ext.setBox (Nat.le_refl _)) (by simp [DCell.row]) (by simp [DCell.row])
set_option maxRecDepth 100000 in
theorem opIs (H : AS) (id : Nat) (bs : List UInt8) (c : Nat) (s : RS) (hr : RdOk H id bs c s) : ACalls Tryz.prog 59 [.ptr id 1 0 0] H fun q H' => q = .agg (rdOp bs s).1.row ∧ H' = H.setBox id [rrow bs c (rdOp bs s).2] := by
 refine ACalls_intro Tryz.func59 rfl (by kernel_rfl) (by simp) fun hwf hbel => ?_
 have hid := hr.lt hwf
 have hx0 : ¬ H.next = id := by omega
 have hx1 : ¬ H.next + 1 = id := by omega
 have hy0 : ¬ id = H.next := by omega
 have hy1 : ¬ id = H.next + 1 := by omega
 have hx2 : ¬ H.next + 2 = id := by omega
 have hy2 : ¬ id = H.next + 2 := by omega
 refine T_mid (fun F H' => F 0 = .ptr id 1 0 0 ∧ F 2 = .ptr H.next 1 0 0 ∧ Rdg H H' id bs c s ∧ H'.box H.next = some [[pi 0, pi 0, pi 0, pi 0, pi 0, pi 0, pi 0, .val (.int .u8 0), .val (.int .u64 0), .val (.string ⟨#[]⟩)]] ∧ H'.next = H.next + 1) ?_ ?_
 refine T_rg ?_
 simp [↓put_at, ↓AF.ev_tmp, ↓ex_cons, ↓ex_nil, ↓ex_alloc, aalloc, frame0, hx0, hx1, hx2, hy0, hy1, hy2]
 exact ((Rdg.start hr).other (Nat.le_refl _) hid).bump
 rintro F H' ⟨g0, g2, hg, b2, hn⟩
 refine T_mid (fun F H' => F 0 = .ptr id 1 0 0 ∧ F 2 = .ptr H.next 1 0 0 ∧ F 3 = .ptr (H.next + 1) 1 0 0 ∧ Rdg H H' id bs c s ∧ H'.box H.next = some [[pi 0, pi 0, pi 0, pi 0, pi 0, pi 0, pi 0, .val (.int .u8 0), .val (.int .u64 0), .val (.string ⟨#[]⟩)]] ∧ H'.box (H.next + 1) = some [[pi 0, pi 0, pi 0, pi 0, pi 0, pi 0, pi 0, .val (.int .u8 0), .val (.int .u64 0), .val (.string ⟨#[]⟩)]] ∧ H'.next = H.next + 2) ?_ ?_
 refine T_rg ?_
 simp [↓put_at, ↓AF.ev_tmp, ↓ex_cons, ↓ex_nil, ↓ex_alloc, aalloc, frame0, hx0, hx1, hx2, hy0, hy1, hy2, g0, g2, hn, b2]
 exact (hg.other (by omega) hid).bump
 rintro F H' ⟨g0, g2, g3, hg, b2, b3, hn⟩
 refine T_seqk fun K0 hK0 => ?_
 refine T_sr fun K1 hK1 => ?_
 simp [↓put_at, ↓AF.ev_tmp, ↓ex_cons, ↓ex_nil, ↓ex_fieldAddr, ↓ex_buildSlice, ↓ex_len, ↓ex_move, ↓AF.ev_int, aFieldAddr, abuildSlice, aLen, frame0, hx0, hx1, hx2, hy0, hy1, hy2, g0, g2, g0, g2, g3, hn, b2, b3, frzR_id]
 refine hK1 _ _ ?_
 try clear hK1 K1
 refine T_block ?_
 refine T_loop (fun k F H' => ∃ i : Nat, k = 7 - i ∧ i ≤ 7 ∧ F 0 = .ptr id 1 0 0 ∧ F 2 = .ptr H.next 1 0 0 ∧ F 3 = .ptr (H.next + 1) 1 0 0 ∧ F 13 = .msl (H.next + 2) 7 1 ∧ F 14 = pi 7 ∧ F 15 = pi i ∧ Rdg H H' id bs c (rdNums bs i s).2 ∧ H'.box H.next = some [[pi 0, pi 0, pi 0, pi 0, pi 0, pi 0, pi 0, .val (.int .u8 0), .val (.int .u64 0), .val (.string ⟨#[]⟩)]] ∧ H'.box (H.next + 1) = some [prow [] 7 (rdNums bs i s).1 [.val (.int .u8 0), .val (.int .u64 0), .val (.string ⟨#[]⟩)]] ∧ H'.box (H.next + 2) = some (ptrs (H.next + 1) 0 7) ∧ H'.next = H.next + 3) (7) ?_ ?_
 refine ⟨0, ?_⟩
 simp [g0, g2, g3, b2, b3, hn, rdNums, prow, ptrs]
 exact (Rdg.other (j := H.next + 2) hg (by omega) hid).bump
 rintro k F H' ⟨i, rfl, hile, g0, g2, g3, g13, g14, g15, hg, b2, b3, b4, hn⟩
 refine T_sr fun K2 hK2 => ?_
 simp [↓put_at, ↓AF.ev_tmp, ↓ex_cons, ↓ex_nil, ↓ex_binOp, aBin, aBinV, frame0, hx0, hx1, hx2, hy0, hy1, hy2, g0, g2, g0, g2, g3, g0, g2, g3, g13, g14, g15]
 refine hK2 _ _ ?_
 try clear hK2 K2
 refine T_seqk fun K3 hK3 => ?_
 refine T_cond (by first | rfl | exact g0 | exact g2 | exact g0 | exact g2 | exact g3 | exact g0 | exact g2 | exact g3 | exact g13 | exact g14 | exact g15) (fun c0 => ?_) (fun c0 => ?_)
 have hlt : i < 7 := by simp at c0; omega
 have hi9 : i ≤ 9 := by omega
 have hpl : (prow [] 7 (rdNums bs i s).1 [.val (.int .u8 0), .val (.int .u64 0), .val (.string ⟨#[]⟩)]).length = 10 := by rw [prow_length (by simp; omega)]; rfl
 refine T_skip ?_
 try simp only [tN, bN, lN]
 refine hK3 _ _ ?_
 try clear hK3 K3
 refine T_seqk fun K4 hK4 => ?_
 refine T_block ?_
 refine T_sr fun K5 hK5 => ?_
 simp [↓put_at, ↓AF.ev_tmp, ↓ex_cons, ↓ex_nil, ↓ex_indexAddr, ↓ex_load, ↓ex_assign, aIndexAddr, aload, frame0, hx0, hx1, hx2, hy0, hy1, hy2, g0, g2, g0, g2, g3, g0, g2, g3, g13, g14, g15, aIndexAddr, amsl hlt, b4, ptrs_get hlt, part_ptr]
 refine hK5 _ _ ?_
 try clear hK5 K5
 refine T_rg ?_
 simp [↓put_at, ↓AF.ev_tmp, ↓ex_cons, ↓ex_nil, ↓ex_move, ↓ex_call, ↓AF.ev_func, ↓ex_nilCheck, ↓ex_store, astore, frame0, hx0, hx1, hx2, hy0, hy1, hy2, g0, g2, g0, g2, g3, g0, g2, g3, g13, g14, g15, b2, b3, b4, hpl, hi9]
 refine callK.of (numIs _ id bs c _ hg.ok) ?_
 rintro _ H2 ⟨rfl, rfl⟩
 simp [↓put_at, ↓AF.ev_tmp, ↓ex_cons, ↓ex_nil, ↓ex_move, ↓ex_call, ↓AF.ev_func, ↓ex_nilCheck, ↓ex_store, astore, frame0, hx0, hx1, hx2, hy0, hy1, hy2, g0, g2, g0, g2, g3, g0, g2, g3, g13, g14, g15, b2, b3, b4, hpl, hi9]
 refine hK4 _ _ ?_
 try clear hK4 K4
 refine T_rg ?_
 simp [↓put_at, ↓AF.ev_tmp, ↓ex_cons, ↓ex_nil, ↓ex_binOp, ↓AF.ev_int, ↓ex_move, aBin, aBinV, frame0, hx0, hx1, hx2, hy0, hy1, hy2, g0, g2, g0, g2, g3, g0, g2, g3, g13, g14, g15]
 refine ⟨7 - (i + 1), by omega, i + 1, rfl, by omega, by rw [wrap_i64 (by omega) (by omega)]; rfl, (hg.step (rdNums_le (n := i + 1) hr.le)).other (by omega) hid, b2, ?_, b4, hn⟩
 simpa [rdNums] using prow_step (pre := []) (n := 7) (i := i) (o := 0) (nums := (rdNums bs i s).1) (post := [.val (.int .u8 0), .val (.int .u64 0), .val (.string ⟨#[]⟩)]) (by simp) rfl hlt (rdNum bs (rdNums bs i s).2).1
 have hlt : i = 7 := by simp at c0; omega
 subst hlt
 rw [list7 (rdNums_length (bs := bs) (n := 7) (s := s))] at b3
 simp only [prow, List.map_cons, List.map_nil, List.nil_append, List.cons_append, List.length_cons, List.length_nil, Nat.reduceAdd, Nat.sub_self, List.replicate_zero] at b3
 refine T_exit ?_
 try simp only [tE, bE, lE, if_true, Nat.reduceEqDiff, if_false, reduceIte, tN, bN, lN]
 refine hK0 _ _ ?_
 try clear hK0 K0
 refine T_sr fun K6 hK6 => ?_
 simp [↓put_at, ↓AF.ev_tmp, ↓ex_cons, ↓ex_nil, ↓ex_move, ↓ex_call, ↓AF.ev_func, ↓ex_fieldAddr, ↓ex_store, aFieldAddr, astore, splice, frame0, hx0, hx1, hx2, hy0, hy1, hy2, g0, g2, g0, g2, g3, g0, g2, g3, g13, g14, g15, hn, b2, b3, DVal.row]
 refine callK.of (valueIs _ id bs c _ hg.ok) ?_
 rintro _ H2 ⟨rfl, rfl⟩
 simp [↓put_at, ↓AF.ev_tmp, ↓ex_cons, ↓ex_nil, ↓ex_move, ↓ex_call, ↓AF.ev_func, ↓ex_fieldAddr, ↓ex_store, aFieldAddr, astore, splice, frame0, hx0, hx1, hx2, hy0, hy1, hy2, g0, g2, g0, g2, g3, g0, g2, g3, g13, g14, g15, hn, b2, b3, DVal.row]
 refine hK6 _ _ ?_
 try clear hK6 K6
 refine T_sr fun K7 hK7 => ?_
 simp [↓put_at, ↓AF.ev_tmp, ↓ex_cons, ↓ex_nil, ↓ex_load, ↓ex_store, aload, partOf, astore, splice, frame0, hx0, hx1, hx2, hy0, hy1, hy2, g0, g2, g0, g2, g3, g0, g2, g3, g13, g14, g15, b2, b3]
 refine hK7 _ _ ?_
 try clear hK7 K7
 refine T_ret ?_
 try simp only [tR, bR, lR]
 refine owes_one_at (H1 := H.setBox id [rrow bs c (rdOp bs s).2]) (.inr rfl) (hr.wf hwf _) (by simp) (by rw [show Tryz.f59.results.toList = [.cell 2 50] from rfl]; simp [aResults, aload, partOf, g2]; rfl) rfl (((hg.step (rdVal_le (rdNums_le hr.le))).other (by omega) hid).other (Nat.le_refl _) hid).ext (by simp [DOp.row]) (by simp [DOp.row])
end Go.Abs
namespace Go.Abs
open Go.Proofs
set_option autoImplicit false
set_option linter.all false
def rdGo {α : Type} (rd : RS → α × RS) : Nat → List α → RS → List α × RS
  | 0, acc, s => (acc, s)
  | n + 1, acc, s => if (rd s).2.e = 0 then rdGo rd n (acc ++ [(rd s).1]) (rd s).2 else ([], (rd s).2)
def rdList {α : Type} (bs : List UInt8) (rd : List UInt8 → RS → α × RS) (s : RS) : List α × RS := rdGo (rd bs) (rdMany bs s).1 [] (rdMany bs s).2
theorem rdGo_le {α : Type} {bs : List UInt8} {rd : RS → α × RS} (hrd : ∀ s : RS, s.at' ≤ bs.length → (rd s).2.at' ≤ bs.length) : ∀ (n : Nat) (acc : List α) (s : RS), s.at' ≤ bs.length → (rdGo rd n acc s).2.at' ≤ bs.length
  | 0, acc, s, h => h
  | n + 1, acc, s, h => by
    unfold rdGo; split
    · exact rdGo_le hrd n _ _ (hrd s h)
    · exact hrd s h
theorem rdList_le {α : Type} {bs : List UInt8} {rd : List UInt8 → RS → α × RS} (hrd : ∀ s : RS, s.at' ≤ bs.length → (rd bs s).2.at' ≤ bs.length) {s : RS} (h : s.at' ≤ bs.length) : (rdList bs rd s).2.at' ≤ bs.length := rdGo_le hrd _ _ _ (rdMany_le h)
@[simp] theorem frozen_rowOp (x : DOp) : ∀ p ∈ x.row, Frozen p := by simp [DOp.row]
@[simp] theorem frozen_rowLoop (x : DLoop) : ∀ p ∈ x.row, Frozen p := by simp [DLoop.row]
@[simp] theorem frozen_rowCell (x : DCell) : ∀ p ∈ x.row, Frozen p := by simp [DCell.row]
@[simp] theorem frozen_rowFlat (c : Nat) (x : DFlat) : ∀ p ∈ x.row c, Frozen p := by simp [DFlat.row]
@[simp] theorem frozen_rowJob (c : Nat) (x : DJob) : ∀ p ∈ x.row c, Frozen p := by simp [DJob.row]
theorem below_rowOp (n : Nat) (x : DOp) : ∀ p ∈ x.row, Below n p := by simp [DOp.row]
theorem below_rowLoop (n : Nat) (x : DLoop) : ∀ p ∈ x.row, Below n p := by simp [DLoop.row]
theorem below_rowCell (n : Nat) (x : DCell) : ∀ p ∈ x.row, Below n p := by simp [DCell.row]
theorem below_rowFlat (n c : Nat) (x : DFlat) : ∀ p ∈ x.row c, Below n p := by simp [DFlat.row, DOp.row, DLoop.row]
theorem below_rowJob (n c : Nat) (x : DJob) : ∀ p ∈ x.row c, Below n p := by simp [DJob.row, irow]
theorem frz_Op (H : AS) (x : DOp) : frzR H [x.row] = ([x.row], H) := frzR_id (by simp [DOp.row])
theorem frz_Loop (H : AS) (x : DLoop) : frzR H [x.row] = ([x.row], H) := frzR_id (by simp [DLoop.row])
theorem frz_Cell (H : AS) (x : DCell) : frzR H [x.row] = ([x.row], H) := frzR_id (by simp [DCell.row])
theorem frz_Flat (H : AS) (c : Nat) (x : DFlat) : frzR H [x.row c] = ([x.row c], H) := frzR_id (by simp [DFlat.row])
theorem frz_Job (H : AS) (c : Nat) (x : DJob) : frzR H [x.row c] = ([x.row c], H) := frzR_id (by simp [DJob.row])
@[simp] theorem frozenL (x : Int) : ∀ p ∈ irow x, Frozen p := by simp [irow]
theorem below_irow (n : Nat) (x : Int) : ∀ p ∈ irow x, Below n p := by simp [irow]
theorem alloc_50 (H : AS) : aalloc Tryz.prog H 50 = some (.ptr H.next 1 0 0, (H.setBox H.next [[pi 0, pi 0, pi 0, pi 0, pi 0, pi 0, pi 0, .val (.int .u8 0), .val (.int .u64 0), .val (.string ⟨#[]⟩)]]).bump 1) := by simp [aalloc]
theorem alloc_52 (H : AS) : aalloc Tryz.prog H 52 = some (.ptr H.next 1 0 0, (H.setBox H.next [[pi 0, pi 0, pi 0]]).bump 1) := by simp [aalloc]
theorem alloc_44 (H : AS) : aalloc Tryz.prog H 44 = some (.ptr H.next 1 0 0, (H.setBox H.next [[.val (.int .u8 0), .val (.bool false), pi 0, pi 0, pi 0, .val (.int .u8 0), .val (.int .u64 0), .val (.string ⟨#[]⟩), .val (.bool false), pi 0, .val (.string ⟨#[]⟩)]]).bump 1) := by simp [aalloc]
theorem alloc_48 (H : AS) : aalloc Tryz.prog H 48 = some (.ptr H.next 1 0 0, (H.setBox H.next [[.val (.string ⟨#[]⟩), pi 0, pi 0, pi 0, pi 0, pi 0, .nil, .nil]]).bump 1) := by simp [aalloc]
theorem alloc_55 (H : AS) : aalloc Tryz.prog H 55 = some (.ptr H.next 1 0 0, (H.setBox H.next [[.val (.string ⟨#[]⟩), pi 0, pi 0, pi 0, .nil, .nil, pi 0]]).bump 1) := by simp [aalloc]
set_option maxRecDepth 100000 in
theorem opsIs (H : AS) (id : Nat) (bs : List UInt8) (c : Nat) (s : RS) (hr : RdOk H id bs c s) : ACalls Tryz.prog 58 [.ptr id 1 0 0, .bound 59 [.ptr id 1 0 0]] H fun q H' => q = PV.sl H.color 10 ((rdList bs rdOp s).1.map DOp.row) ∧ H' = H.setBox id [rrow bs c (rdList bs rdOp s).2] := by
 refine ACalls_intro Tryz.func58 rfl (by kernel_rfl) (by simp) fun hwf hbel => ?_
 have hid := hr.lt hwf
 have hle := hr.le
 have hsm := hr.small
 have hmm := rdMany_small (s := s) hle
 refine T_sr fun K0 hK0 => ?_
 simp [↓put_at, ↓AF.ev_tmp, ↓ex_cons, ↓ex_nil, ↓ex_assign, ↓AF.ev_slice, frame0]
 refine hK0 _ _ ?_
 try clear hK0 K0
 refine T_sr fun K1 hK1 => ?_
 simp [↓put_at, ↓AF.ev_tmp, ↓ex_cons, ↓ex_nil, ↓ex_assign, ↓AF.ev_slice, frame0]
 refine hK1 _ _ ?_
 try clear hK1 K1
 refine T_seqk fun K2 hK2 => ?_
 refine T_sr fun K3 hK3 => ?_
 simp [↓put_at, ↓AF.ev_tmp, ↓ex_cons, ↓ex_nil, ↓ex_move, ↓ex_call, ↓AF.ev_func, ↓AF.ev_int, frame0]
 refine callK.of (manyIs _ id bs c s hr) ?_
 rintro _ Hz ⟨rfl, hz⟩
 subst Hz
 simp [↓put_at, ↓AF.ev_tmp, ↓ex_cons, ↓ex_nil, ↓ex_move, ↓ex_call, ↓AF.ev_func, ↓AF.ev_int, frame0]
 refine hK3 _ _ ?_
 try clear hK3 K3
 refine T_block ?_
 refine T_loop (fun k F H' => ∃ (i : Nat) (acc : List DOp) (s1 : RS), k = (rdMany bs s).1 - i ∧ i ≤ (rdMany bs s).1 ∧ F 0 = .ptr id 1 0 0 ∧ F 1 = .bound 59 [.ptr id 1 0 0] ∧ F 8 = pi (rdMany bs s).1 ∧ F 9 = pi i ∧ Rdg H H' id bs c s1 ∧ OutIs H.next H' (F 5) 10 (acc.map DOp.row) ∧ acc.length = i ∧ rdGo (rdOp bs) (rdMany bs s).1 [] (rdMany bs s).2 = rdGo (rdOp bs) ((rdMany bs s).1 - i) acc s1) ((rdMany bs s).1) ?_ ?_
 refine ⟨0, [], (rdMany bs s).2, ?_⟩
 simp [frame0]
 exact ⟨(Rdg.start hr).step (rdMany_le hle), .nil⟩
 rintro k F H1 ⟨i, acc, s1, rfl, hile, g0, g1, g8, g9, hg, hout, hal, hgo⟩
 refine T_sr fun K4 hK4 => ?_
 simp [↓put_at, ↓AF.ev_tmp, ↓ex_cons, ↓ex_nil, ↓ex_binOp, aBin, aBinV, frame0, g0, g1, g8, g9]
 refine hK4 _ _ ?_
 try clear hK4 K4
 refine T_seqk fun K5 hK5 => ?_
 refine T_cond (by first | rfl | exact g0 | exact g1 | exact g8 | exact g9) (fun c0 => ?_) (fun c0 => ?_)
 have hlt : i < (rdMany bs s).1 := by simp at c0; omega
 refine T_skip ?_
 try simp only [tN, bN, lN]
 refine hK5 _ _ ?_
 try clear hK5 K5
 refine T_seqk fun K6 hK6 => ?_
 refine T_block ?_
 refine T_mid (fun F H' => F 0 = .ptr id 1 0 0 ∧ F 1 = .bound 59 [.ptr id 1 0 0] ∧ F 8 = pi (rdMany bs s).1 ∧ F 9 = pi i ∧ F 6 = .ptr H1.next 1 0 0 ∧ Rdg H H' id bs c (rdOp bs s1).2 ∧ H'.box H1.next = some [DOp.row (rdOp bs s1).1] ∧ OutIs H.next H' (F 5) 10 (acc.map DOp.row) ∧ H1.next < H'.next) ?_ ?_
 refine T_rg ?_
 simp [↓put_at, ↓AF.ev_tmp, ↓ex_cons, ↓ex_nil, ↓ex_move, ↓ex_call, ↓ex_alloc, ↓ex_store, astore, frame0, g0, g1, g8, g9, splice_op, alloc_50]
 refine callK.of (opIs _ id bs c _ hg.ok) ?_
 rintro _ H2 ⟨rfl, rfl⟩
 simp [↓put_at, ↓AF.ev_tmp, ↓ex_cons, ↓ex_nil, ↓ex_move, ↓ex_call, ↓ex_alloc, ↓ex_store, astore, frame0, g0, g1, g8, g9, splice_op, alloc_50]
 have hn1 : H.next ≤ H1.next := by have := hg.ext.next; simpa using this
 exact ⟨(((hg.step (rdOp_le hg.ok.le)).other hn1 hid).bump).other hn1 hid, hout.keep (by simp) (fun j hj hl => by simp [show j ≠ id by omega, show j ≠ H1.next by omega])⟩
 rintro F H' ⟨g0, g1, g8, g9, g6, hg, b6, hout, hlt1⟩
 refine T_seqk fun K7 hK7 => ?_
 refine T_sr fun K8 hK8 => ?_
 simp [↓put_at, ↓AF.ev_tmp, ↓ex_cons, ↓ex_nil, ↓ex_move, ↓ex_nilCheck, ↓ex_fieldAddr, ↓ex_load, ↓ex_binOp, ↓AF.ev_int, aFieldAddr, aload, partOf, aBin, aBinV, frame0, g0, g1, g8, g9, g0, g1, g8, g9, g6, hg.ok.box, rrow, int_bne]
 refine hK8 _ _ ?_
 try clear hK8 K8
 refine T_cond (by first | rfl | exact g0 | exact g1 | exact g8 | exact g9 | exact g0 | exact g1 | exact g8 | exact g9 | exact g6) (fun c1 => ?_) (fun c1 => ?_)
 have he : ¬ (rdOp bs s1).2.e = 0 := by simpa using c1
 refine T_sr fun K9 hK9 => ?_
 simp [↓put_at, ↓AF.ev_tmp, ↓ex_cons, ↓ex_nil, ↓ex_assign, ↓AF.ev_slice, frame0, g0, g1, g8, g9, g0, g1, g8, g9, g6]
 refine hK9 _ _ ?_
 try clear hK9 K9
 refine T_ret ?_
 try simp only [tR, bR, lR]
 have e : rdList bs rdOp s = ([], (rdOp bs s1).2) := by
     unfold rdList; rw [hgo, show (rdMany bs s).1 - i = ((rdMany bs s).1 - (i + 1)) + 1 by omega, rdGo, if_neg he]
 rw [e]
 refine owes_out_at (H1 := H.setBox id [rrow bs c ([], (rdOp bs s1).2).2]) (lo := H.next) (rows := []) (.inr rfl) (hr.wf hwf _) (by simp) rfl (.nil) (by simp) hg.ext ?_
 simp
 have he : (rdOp bs s1).2.e = 0 := by simpa using c1
 refine T_skip ?_
 try simp only [tN, bN, lN]
 refine hK7 _ _ ?_
 try clear hK7 K7
 refine T_rg ?_
 simp [↓put_at, ↓AF.ev_tmp, ↓ex_cons, ↓ex_nil, ↓ex_move, ↓ex_load, ↓ex_buildSlice, ↓ex_append, ↓ex_assign, aload, abuildSlice, frame0, g0, g1, g8, g9, g0, g1, g8, g9, g6, b6, part_op, frz_Op]
 refine appendK.of (aappend_outT (lo := H.next) (rows := acc.map DOp.row) (ys := [DOp.row (rdOp bs s1).1]) ?_ ?_ rfl rfl Tryz.sz50 Tryz.zero50 Tryz.by50 rfl rfl (by decide) ?_ (by intro r hr p hp; rw [List.mem_singleton] at hr; subst hr; exact frozen_rowOp _ p hp) ?_ ?_)
 exact hout.keep (by simp) (fun j _ hj => by simp [Nat.ne_of_lt hj])
 have := hg.ext.next; simp at this ⊢; omega
 simp [srcOf]
 simp; omega
 intro p2 H3 hout2 hab hel
 have hext3 : (H.setBox id [rrow bs c (rdOp bs s1).2]).Ext H3 := hab _ (by simp) (.bump (.setBox (by have := hg.ext.next; simp at this ⊢; omega) hg.ext))
 have hg3 : Rdg H H3 id bs c (rdOp bs s1).2 := ⟨⟨by rw [hext3.box id (by simpa using hid)]; simp, hg.ok.le, hg.ok.small⟩, hext3⟩
 simp [↓put_at, ↓AF.ev_tmp, ↓ex_cons, ↓ex_nil, ↓ex_move, ↓ex_load, ↓ex_buildSlice, ↓ex_append, ↓ex_assign, aload, abuildSlice, frame0, g0, g1, g8, g9, g0, g1, g8, g9, g6, b6, part_op, frz_Op]
 refine hK6 _ _ ?_
 try clear hK6 K6
 refine T_rg ?_
 simp [↓put_at, ↓AF.ev_tmp, ↓ex_cons, ↓ex_nil, ↓ex_binOp, ↓AF.ev_int, ↓ex_move, aBin, aBinV, frame0, g0, g1, g8, g9, g0, g1, g8, g9, g6]
 refine ⟨(rdMany bs s).1 - (i + 1), by omega, i + 1, rfl, by omega, by rw [wrap_i64 (by omega) (by omega)]; rfl, acc ++ [(rdOp bs s1).1], (rdOp bs s1).2, hg3, by simpa using hout2, by simp [hal], ?_⟩
 rw [hgo, show (rdMany bs s).1 - i = ((rdMany bs s).1 - (i + 1)) + 1 by omega, rdGo, if_pos he]
 have hge : i = (rdMany bs s).1 := by simp at c0; omega
 subst hge
 refine T_exit ?_
 try simp only [tE, bE, lE, if_true, Nat.reduceEqDiff, if_false, reduceIte, tN, bN, lN]
 refine hK2 _ _ ?_
 try clear hK2 K2
 refine T_sr fun K10 hK10 => ?_
 simp [↓put_at, ↓AF.ev_tmp, ↓ex_cons, ↓ex_nil, ↓ex_move, ↓ex_assign, frame0, g0, g1, g8, g9]
 refine hK10 _ _ ?_
 try clear hK10 K10
 refine T_ret ?_
 try simp only [tR, bR, lR]
 have e : rdList bs rdOp s = (acc, s1) := by
     unfold rdList; rw [hgo, Nat.sub_self]; rfl
 rw [e]
 refine owes_out_at (H1 := H.setBox id [rrow bs c (acc, s1).2]) (lo := H.next) (rows := acc.map DOp.row) (.inr rfl) (hr.wf hwf _) (by simp) rfl (hout) (by simp) hg.ext ?_
 intro r hr p hp
 obtain ⟨x, _, rfl⟩ := List.mem_map.1 hr
 exact below_rowOp _ x p hp
set_option maxRecDepth 100000 in
theorem loopsIs (H : AS) (id : Nat) (bs : List UInt8) (c : Nat) (s : RS) (hr : RdOk H id bs c s) : ACalls Tryz.prog 60 [.ptr id 1 0 0, .bound 61 [.ptr id 1 0 0]] H fun q H' => q = PV.sl H.color 3 ((rdList bs rdLoop s).1.map DLoop.row) ∧ H' = H.setBox id [rrow bs c (rdList bs rdLoop s).2] := by
 refine ACalls_intro Tryz.func60 rfl (by kernel_rfl) (by simp) fun hwf hbel => ?_
 have hid := hr.lt hwf
 have hle := hr.le
 have hsm := hr.small
 have hmm := rdMany_small (s := s) hle
 refine T_sr fun K0 hK0 => ?_
 simp [↓put_at, ↓AF.ev_tmp, ↓ex_cons, ↓ex_nil, ↓ex_assign, ↓AF.ev_slice, frame0]
 refine hK0 _ _ ?_
 try clear hK0 K0
 refine T_sr fun K1 hK1 => ?_
 simp [↓put_at, ↓AF.ev_tmp, ↓ex_cons, ↓ex_nil, ↓ex_assign, ↓AF.ev_slice, frame0]
 refine hK1 _ _ ?_
 try clear hK1 K1
 refine T_seqk fun K2 hK2 => ?_
 refine T_sr fun K3 hK3 => ?_
 simp [↓put_at, ↓AF.ev_tmp, ↓ex_cons, ↓ex_nil, ↓ex_move, ↓ex_call, ↓AF.ev_func, ↓AF.ev_int, frame0]
 refine callK.of (manyIs _ id bs c s hr) ?_
 rintro _ Hz ⟨rfl, hz⟩
 subst Hz
 simp [↓put_at, ↓AF.ev_tmp, ↓ex_cons, ↓ex_nil, ↓ex_move, ↓ex_call, ↓AF.ev_func, ↓AF.ev_int, frame0]
 refine hK3 _ _ ?_
 try clear hK3 K3
 refine T_block ?_
 refine T_loop (fun k F H' => ∃ (i : Nat) (acc : List DLoop) (s1 : RS), k = (rdMany bs s).1 - i ∧ i ≤ (rdMany bs s).1 ∧ F 0 = .ptr id 1 0 0 ∧ F 1 = .bound 61 [.ptr id 1 0 0] ∧ F 8 = pi (rdMany bs s).1 ∧ F 9 = pi i ∧ Rdg H H' id bs c s1 ∧ OutIs H.next H' (F 5) 3 (acc.map DLoop.row) ∧ acc.length = i ∧ rdGo (rdLoop bs) (rdMany bs s).1 [] (rdMany bs s).2 = rdGo (rdLoop bs) ((rdMany bs s).1 - i) acc s1) ((rdMany bs s).1) ?_ ?_
 refine ⟨0, [], (rdMany bs s).2, ?_⟩
 simp [frame0]
 exact ⟨(Rdg.start hr).step (rdMany_le hle), .nil⟩
 rintro k F H1 ⟨i, acc, s1, rfl, hile, g0, g1, g8, g9, hg, hout, hal, hgo⟩
 refine T_sr fun K4 hK4 => ?_
 simp [↓put_at, ↓AF.ev_tmp, ↓ex_cons, ↓ex_nil, ↓ex_binOp, aBin, aBinV, frame0, g0, g1, g8, g9]
 refine hK4 _ _ ?_
 try clear hK4 K4
 refine T_seqk fun K5 hK5 => ?_
 refine T_cond (by first | rfl | exact g0 | exact g1 | exact g8 | exact g9) (fun c0 => ?_) (fun c0 => ?_)
 have hlt : i < (rdMany bs s).1 := by simp at c0; omega
 refine T_skip ?_
 try simp only [tN, bN, lN]
 refine hK5 _ _ ?_
 try clear hK5 K5
 refine T_seqk fun K6 hK6 => ?_
 refine T_block ?_
 refine T_mid (fun F H' => F 0 = .ptr id 1 0 0 ∧ F 1 = .bound 61 [.ptr id 1 0 0] ∧ F 8 = pi (rdMany bs s).1 ∧ F 9 = pi i ∧ F 6 = .ptr H1.next 1 0 0 ∧ Rdg H H' id bs c (rdLoop bs s1).2 ∧ H'.box H1.next = some [DLoop.row (rdLoop bs s1).1] ∧ OutIs H.next H' (F 5) 3 (acc.map DLoop.row) ∧ H1.next < H'.next) ?_ ?_
 refine T_rg ?_
 simp [↓put_at, ↓AF.ev_tmp, ↓ex_cons, ↓ex_nil, ↓ex_move, ↓ex_call, ↓ex_alloc, ↓ex_store, astore, frame0, g0, g1, g8, g9, splice_loop, alloc_52]
 refine callK.of (loopIs _ id bs c _ hg.ok) ?_
 rintro _ H2 ⟨rfl, rfl⟩
 simp [↓put_at, ↓AF.ev_tmp, ↓ex_cons, ↓ex_nil, ↓ex_move, ↓ex_call, ↓ex_alloc, ↓ex_store, astore, frame0, g0, g1, g8, g9, splice_loop, alloc_52]
 have hn1 : H.next ≤ H1.next := by have := hg.ext.next; simpa using this
 exact ⟨(((hg.step (rdLoop_le hg.ok.le)).other hn1 hid).bump).other hn1 hid, hout.keep (by simp) (fun j hj hl => by simp [show j ≠ id by omega, show j ≠ H1.next by omega])⟩
 rintro F H' ⟨g0, g1, g8, g9, g6, hg, b6, hout, hlt1⟩
 refine T_seqk fun K7 hK7 => ?_
 refine T_sr fun K8 hK8 => ?_
 simp [↓put_at, ↓AF.ev_tmp, ↓ex_cons, ↓ex_nil, ↓ex_move, ↓ex_nilCheck, ↓ex_fieldAddr, ↓ex_load, ↓ex_binOp, ↓AF.ev_int, aFieldAddr, aload, partOf, aBin, aBinV, frame0, g0, g1, g8, g9, g0, g1, g8, g9, g6, hg.ok.box, rrow, int_bne]
 refine hK8 _ _ ?_
 try clear hK8 K8
 refine T_cond (by first | rfl | exact g0 | exact g1 | exact g8 | exact g9 | exact g0 | exact g1 | exact g8 | exact g9 | exact g6) (fun c1 => ?_) (fun c1 => ?_)
 have he : ¬ (rdLoop bs s1).2.e = 0 := by simpa using c1
 refine T_sr fun K9 hK9 => ?_
 simp [↓put_at, ↓AF.ev_tmp, ↓ex_cons, ↓ex_nil, ↓ex_assign, ↓AF.ev_slice, frame0, g0, g1, g8, g9, g0, g1, g8, g9, g6]
 refine hK9 _ _ ?_
 try clear hK9 K9
 refine T_ret ?_
 try simp only [tR, bR, lR]
 have e : rdList bs rdLoop s = ([], (rdLoop bs s1).2) := by
     unfold rdList; rw [hgo, show (rdMany bs s).1 - i = ((rdMany bs s).1 - (i + 1)) + 1 by omega, rdGo, if_neg he]
 rw [e]
 refine owes_out_at (H1 := H.setBox id [rrow bs c ([], (rdLoop bs s1).2).2]) (lo := H.next) (rows := []) (.inr rfl) (hr.wf hwf _) (by simp) rfl (.nil) (by simp) hg.ext ?_
 simp
 have he : (rdLoop bs s1).2.e = 0 := by simpa using c1
 refine T_skip ?_
 try simp only [tN, bN, lN]
 refine hK7 _ _ ?_
 try clear hK7 K7
 refine T_rg ?_
 simp [↓put_at, ↓AF.ev_tmp, ↓ex_cons, ↓ex_nil, ↓ex_move, ↓ex_load, ↓ex_buildSlice, ↓ex_append, ↓ex_assign, aload, abuildSlice, frame0, g0, g1, g8, g9, g0, g1, g8, g9, g6, b6, part_loop, frz_Loop]
 refine appendK.of (aappend_outT (lo := H.next) (rows := acc.map DLoop.row) (ys := [DLoop.row (rdLoop bs s1).1]) ?_ ?_ rfl rfl Tryz.sz52 Tryz.zero52 Tryz.by52 rfl rfl (by decide) ?_ (by intro r hr p hp; rw [List.mem_singleton] at hr; subst hr; exact frozen_rowLoop _ p hp) ?_ ?_)
 exact hout.keep (by simp) (fun j _ hj => by simp [Nat.ne_of_lt hj])
 have := hg.ext.next; simp at this ⊢; omega
 simp [srcOf]
 simp; omega
 intro p2 H3 hout2 hab hel
 have hext3 : (H.setBox id [rrow bs c (rdLoop bs s1).2]).Ext H3 := hab _ (by simp) (.bump (.setBox (by have := hg.ext.next; simp at this ⊢; omega) hg.ext))
 have hg3 : Rdg H H3 id bs c (rdLoop bs s1).2 := ⟨⟨by rw [hext3.box id (by simpa using hid)]; simp, hg.ok.le, hg.ok.small⟩, hext3⟩
 simp [↓put_at, ↓AF.ev_tmp, ↓ex_cons, ↓ex_nil, ↓ex_move, ↓ex_load, ↓ex_buildSlice, ↓ex_append, ↓ex_assign, aload, abuildSlice, frame0, g0, g1, g8, g9, g0, g1, g8, g9, g6, b6, part_loop, frz_Loop]
 refine hK6 _ _ ?_
 try clear hK6 K6
 refine T_rg ?_
 simp [↓put_at, ↓AF.ev_tmp, ↓ex_cons, ↓ex_nil, ↓ex_binOp, ↓AF.ev_int, ↓ex_move, aBin, aBinV, frame0, g0, g1, g8, g9, g0, g1, g8, g9, g6]
 refine ⟨(rdMany bs s).1 - (i + 1), by omega, i + 1, rfl, by omega, by rw [wrap_i64 (by omega) (by omega)]; rfl, acc ++ [(rdLoop bs s1).1], (rdLoop bs s1).2, hg3, by simpa using hout2, by simp [hal], ?_⟩
 rw [hgo, show (rdMany bs s).1 - i = ((rdMany bs s).1 - (i + 1)) + 1 by omega, rdGo, if_pos he]
 have hge : i = (rdMany bs s).1 := by simp at c0; omega
 subst hge
 refine T_exit ?_
 try simp only [tE, bE, lE, if_true, Nat.reduceEqDiff, if_false, reduceIte, tN, bN, lN]
 refine hK2 _ _ ?_
 try clear hK2 K2
 refine T_sr fun K10 hK10 => ?_
 simp [↓put_at, ↓AF.ev_tmp, ↓ex_cons, ↓ex_nil, ↓ex_move, ↓ex_assign, frame0, g0, g1, g8, g9]
 refine hK10 _ _ ?_
 try clear hK10 K10
 refine T_ret ?_
 try simp only [tR, bR, lR]
 have e : rdList bs rdLoop s = (acc, s1) := by
     unfold rdList; rw [hgo, Nat.sub_self]; rfl
 rw [e]
 refine owes_out_at (H1 := H.setBox id [rrow bs c (acc, s1).2]) (lo := H.next) (rows := acc.map DLoop.row) (.inr rfl) (hr.wf hwf _) (by simp) rfl (hout) (by simp) hg.ext ?_
 intro r hr p hp
 obtain ⟨x, _, rfl⟩ := List.mem_map.1 hr
 exact below_rowLoop _ x p hp
set_option maxRecDepth 100000 in
theorem cellsIs (H : AS) (id : Nat) (bs : List UInt8) (c : Nat) (s : RS) (hr : RdOk H id bs c s) : ACalls Tryz.prog 22 [.ptr id 1 0 0, .bound 23 [.ptr id 1 0 0]] H fun q H' => q = PV.sl H.color 11 ((rdList bs rdCell s).1.map DCell.row) ∧ H' = H.setBox id [rrow bs c (rdList bs rdCell s).2] := by
 refine ACalls_intro Tryz.func22 rfl (by kernel_rfl) (by simp) fun hwf hbel => ?_
 have hid := hr.lt hwf
 have hle := hr.le
 have hsm := hr.small
 have hmm := rdMany_small (s := s) hle
 refine T_sr fun K0 hK0 => ?_
 simp [↓put_at, ↓AF.ev_tmp, ↓ex_cons, ↓ex_nil, ↓ex_assign, ↓AF.ev_slice, frame0]
 refine hK0 _ _ ?_
 try clear hK0 K0
 refine T_sr fun K1 hK1 => ?_
 simp [↓put_at, ↓AF.ev_tmp, ↓ex_cons, ↓ex_nil, ↓ex_assign, ↓AF.ev_slice, frame0]
 refine hK1 _ _ ?_
 try clear hK1 K1
 refine T_seqk fun K2 hK2 => ?_
 refine T_sr fun K3 hK3 => ?_
 simp [↓put_at, ↓AF.ev_tmp, ↓ex_cons, ↓ex_nil, ↓ex_move, ↓ex_call, ↓AF.ev_func, ↓AF.ev_int, frame0]
 refine callK.of (manyIs _ id bs c s hr) ?_
 rintro _ Hz ⟨rfl, hz⟩
 subst Hz
 simp [↓put_at, ↓AF.ev_tmp, ↓ex_cons, ↓ex_nil, ↓ex_move, ↓ex_call, ↓AF.ev_func, ↓AF.ev_int, frame0]
 refine hK3 _ _ ?_
 try clear hK3 K3
 refine T_block ?_
 refine T_loop (fun k F H' => ∃ (i : Nat) (acc : List DCell) (s1 : RS), k = (rdMany bs s).1 - i ∧ i ≤ (rdMany bs s).1 ∧ F 0 = .ptr id 1 0 0 ∧ F 1 = .bound 23 [.ptr id 1 0 0] ∧ F 8 = pi (rdMany bs s).1 ∧ F 9 = pi i ∧ Rdg H H' id bs c s1 ∧ OutIs H.next H' (F 5) 11 (acc.map DCell.row) ∧ acc.length = i ∧ rdGo (rdCell bs) (rdMany bs s).1 [] (rdMany bs s).2 = rdGo (rdCell bs) ((rdMany bs s).1 - i) acc s1) ((rdMany bs s).1) ?_ ?_
 refine ⟨0, [], (rdMany bs s).2, ?_⟩
 simp [frame0]
 exact ⟨(Rdg.start hr).step (rdMany_le hle), .nil⟩
 rintro k F H1 ⟨i, acc, s1, rfl, hile, g0, g1, g8, g9, hg, hout, hal, hgo⟩
 refine T_sr fun K4 hK4 => ?_
 simp [↓put_at, ↓AF.ev_tmp, ↓ex_cons, ↓ex_nil, ↓ex_binOp, aBin, aBinV, frame0, g0, g1, g8, g9]
 refine hK4 _ _ ?_
 try clear hK4 K4
 refine T_seqk fun K5 hK5 => ?_
 refine T_cond (by first | rfl | exact g0 | exact g1 | exact g8 | exact g9) (fun c0 => ?_) (fun c0 => ?_)
 have hlt : i < (rdMany bs s).1 := by simp at c0; omega
 refine T_skip ?_
 try simp only [tN, bN, lN]
 refine hK5 _ _ ?_
 try clear hK5 K5
 refine T_seqk fun K6 hK6 => ?_
 refine T_block ?_
 refine T_mid (fun F H' => F 0 = .ptr id 1 0 0 ∧ F 1 = .bound 23 [.ptr id 1 0 0] ∧ F 8 = pi (rdMany bs s).1 ∧ F 9 = pi i ∧ F 6 = .ptr H1.next 1 0 0 ∧ Rdg H H' id bs c (rdCell bs s1).2 ∧ H'.box H1.next = some [DCell.row (rdCell bs s1).1] ∧ OutIs H.next H' (F 5) 11 (acc.map DCell.row) ∧ H1.next < H'.next) ?_ ?_
 refine T_rg ?_
 simp [↓put_at, ↓AF.ev_tmp, ↓ex_cons, ↓ex_nil, ↓ex_move, ↓ex_call, ↓ex_alloc, ↓ex_store, astore, frame0, g0, g1, g8, g9, splice_cell, alloc_44]
 refine callK.of (cellIs _ id bs c _ hg.ok) ?_
 rintro _ H2 ⟨rfl, rfl⟩
 simp [↓put_at, ↓AF.ev_tmp, ↓ex_cons, ↓ex_nil, ↓ex_move, ↓ex_call, ↓ex_alloc, ↓ex_store, astore, frame0, g0, g1, g8, g9, splice_cell, alloc_44]
 have hn1 : H.next ≤ H1.next := by have := hg.ext.next; simpa using this
 exact ⟨(((hg.step (rdCell_le hg.ok.le)).other hn1 hid).bump).other hn1 hid, hout.keep (by simp) (fun j hj hl => by simp [show j ≠ id by omega, show j ≠ H1.next by omega])⟩
 rintro F H' ⟨g0, g1, g8, g9, g6, hg, b6, hout, hlt1⟩
 refine T_seqk fun K7 hK7 => ?_
 refine T_sr fun K8 hK8 => ?_
 simp [↓put_at, ↓AF.ev_tmp, ↓ex_cons, ↓ex_nil, ↓ex_move, ↓ex_nilCheck, ↓ex_fieldAddr, ↓ex_load, ↓ex_binOp, ↓AF.ev_int, aFieldAddr, aload, partOf, aBin, aBinV, frame0, g0, g1, g8, g9, g0, g1, g8, g9, g6, hg.ok.box, rrow, int_bne]
 refine hK8 _ _ ?_
 try clear hK8 K8
 refine T_cond (by first | rfl | exact g0 | exact g1 | exact g8 | exact g9 | exact g0 | exact g1 | exact g8 | exact g9 | exact g6) (fun c1 => ?_) (fun c1 => ?_)
 have he : ¬ (rdCell bs s1).2.e = 0 := by simpa using c1
 refine T_sr fun K9 hK9 => ?_
 simp [↓put_at, ↓AF.ev_tmp, ↓ex_cons, ↓ex_nil, ↓ex_assign, ↓AF.ev_slice, frame0, g0, g1, g8, g9, g0, g1, g8, g9, g6]
 refine hK9 _ _ ?_
 try clear hK9 K9
 refine T_ret ?_
 try simp only [tR, bR, lR]
 have e : rdList bs rdCell s = ([], (rdCell bs s1).2) := by
     unfold rdList; rw [hgo, show (rdMany bs s).1 - i = ((rdMany bs s).1 - (i + 1)) + 1 by omega, rdGo, if_neg he]
 rw [e]
 refine owes_out_at (H1 := H.setBox id [rrow bs c ([], (rdCell bs s1).2).2]) (lo := H.next) (rows := []) (.inr rfl) (hr.wf hwf _) (by simp) rfl (.nil) (by simp) hg.ext ?_
 simp
 have he : (rdCell bs s1).2.e = 0 := by simpa using c1
 refine T_skip ?_
 try simp only [tN, bN, lN]
 refine hK7 _ _ ?_
 try clear hK7 K7
 refine T_rg ?_
 simp [↓put_at, ↓AF.ev_tmp, ↓ex_cons, ↓ex_nil, ↓ex_move, ↓ex_load, ↓ex_buildSlice, ↓ex_append, ↓ex_assign, aload, abuildSlice, frame0, g0, g1, g8, g9, g0, g1, g8, g9, g6, b6, part_cell, frz_Cell]
 refine appendK.of (aappend_outT (lo := H.next) (rows := acc.map DCell.row) (ys := [DCell.row (rdCell bs s1).1]) ?_ ?_ rfl rfl Tryz.sz44 Tryz.zero44 Tryz.by44 rfl rfl (by decide) ?_ (by intro r hr p hp; rw [List.mem_singleton] at hr; subst hr; exact frozen_rowCell _ p hp) ?_ ?_)
 exact hout.keep (by simp) (fun j _ hj => by simp [Nat.ne_of_lt hj])
 have := hg.ext.next; simp at this ⊢; omega
 simp [srcOf]
 simp; omega
 intro p2 H3 hout2 hab hel
 have hext3 : (H.setBox id [rrow bs c (rdCell bs s1).2]).Ext H3 := hab _ (by simp) (.bump (.setBox (by have := hg.ext.next; simp at this ⊢; omega) hg.ext))
 have hg3 : Rdg H H3 id bs c (rdCell bs s1).2 := ⟨⟨by rw [hext3.box id (by simpa using hid)]; simp, hg.ok.le, hg.ok.small⟩, hext3⟩
 simp [↓put_at, ↓AF.ev_tmp, ↓ex_cons, ↓ex_nil, ↓ex_move, ↓ex_load, ↓ex_buildSlice, ↓ex_append, ↓ex_assign, aload, abuildSlice, frame0, g0, g1, g8, g9, g0, g1, g8, g9, g6, b6, part_cell, frz_Cell]
 refine hK6 _ _ ?_
 try clear hK6 K6
 refine T_rg ?_
 simp [↓put_at, ↓AF.ev_tmp, ↓ex_cons, ↓ex_nil, ↓ex_binOp, ↓AF.ev_int, ↓ex_move, aBin, aBinV, frame0, g0, g1, g8, g9, g0, g1, g8, g9, g6]
 refine ⟨(rdMany bs s).1 - (i + 1), by omega, i + 1, rfl, by omega, by rw [wrap_i64 (by omega) (by omega)]; rfl, acc ++ [(rdCell bs s1).1], (rdCell bs s1).2, hg3, by simpa using hout2, by simp [hal], ?_⟩
 rw [hgo, show (rdMany bs s).1 - i = ((rdMany bs s).1 - (i + 1)) + 1 by omega, rdGo, if_pos he]
 have hge : i = (rdMany bs s).1 := by simp at c0; omega
 subst hge
 refine T_exit ?_
 try simp only [tE, bE, lE, if_true, Nat.reduceEqDiff, if_false, reduceIte, tN, bN, lN]
 refine hK2 _ _ ?_
 try clear hK2 K2
 refine T_sr fun K10 hK10 => ?_
 simp [↓put_at, ↓AF.ev_tmp, ↓ex_cons, ↓ex_nil, ↓ex_move, ↓ex_assign, frame0, g0, g1, g8, g9]
 refine hK10 _ _ ?_
 try clear hK10 K10
 refine T_ret ?_
 try simp only [tR, bR, lR]
 have e : rdList bs rdCell s = (acc, s1) := by
     unfold rdList; rw [hgo, Nat.sub_self]; rfl
 rw [e]
 refine owes_out_at (H1 := H.setBox id [rrow bs c (acc, s1).2]) (lo := H.next) (rows := acc.map DCell.row) (.inr rfl) (hr.wf hwf _) (by simp) rfl (hout) (by simp) hg.ext ?_
 intro r hr p hp
 obtain ⟨x, _, rfl⟩ := List.mem_map.1 hr
 exact below_rowCell _ x p hp
set_option maxRecDepth 100000 in
theorem intsIs (H : AS) (id : Nat) (bs : List UInt8) (c : Nat) (s : RS) (hr : RdOk H id bs c s) : ACalls Tryz.prog 62 [.ptr id 1 0 0, .bound 56 [.ptr id 1 0 0]] H fun q H' => q = PV.sl H.color 1 ((rdList bs rdNum s).1.map irow) ∧ H' = H.setBox id [rrow bs c (rdList bs rdNum s).2] := by
 refine ACalls_intro Tryz.func62 rfl (by kernel_rfl) (by simp) fun hwf hbel => ?_
 have hid := hr.lt hwf
 have hle := hr.le
 have hsm := hr.small
 have hmm := rdMany_small (s := s) hle
 refine T_sr fun K0 hK0 => ?_
 simp [↓put_at, ↓AF.ev_tmp, ↓ex_cons, ↓ex_nil, ↓ex_assign, ↓AF.ev_slice, frame0]
 refine hK0 _ _ ?_
 try clear hK0 K0
 refine T_sr fun K1 hK1 => ?_
 simp [↓put_at, ↓AF.ev_tmp, ↓ex_cons, ↓ex_nil, ↓ex_assign, ↓AF.ev_slice, frame0]
 refine hK1 _ _ ?_
 try clear hK1 K1
 refine T_seqk fun K2 hK2 => ?_
 refine T_sr fun K3 hK3 => ?_
 simp [↓put_at, ↓AF.ev_tmp, ↓ex_cons, ↓ex_nil, ↓ex_move, ↓ex_call, ↓AF.ev_func, ↓AF.ev_int, frame0]
 refine callK.of (manyIs _ id bs c s hr) ?_
 rintro _ Hz ⟨rfl, hz⟩
 subst Hz
 simp [↓put_at, ↓AF.ev_tmp, ↓ex_cons, ↓ex_nil, ↓ex_move, ↓ex_call, ↓AF.ev_func, ↓AF.ev_int, frame0]
 refine hK3 _ _ ?_
 try clear hK3 K3
 refine T_block ?_
 refine T_loop (fun k F H' => ∃ (i : Nat) (acc : List Int) (s1 : RS), k = (rdMany bs s).1 - i ∧ i ≤ (rdMany bs s).1 ∧ F 0 = .ptr id 1 0 0 ∧ F 1 = .bound 56 [.ptr id 1 0 0] ∧ F 8 = pi (rdMany bs s).1 ∧ F 9 = pi i ∧ Rdg H H' id bs c s1 ∧ OutIs H.next H' (F 5) 1 (acc.map irow) ∧ acc.length = i ∧ rdGo (rdNum bs) (rdMany bs s).1 [] (rdMany bs s).2 = rdGo (rdNum bs) ((rdMany bs s).1 - i) acc s1) ((rdMany bs s).1) ?_ ?_
 refine ⟨0, [], (rdMany bs s).2, ?_⟩
 simp [frame0]
 exact ⟨(Rdg.start hr).step (rdMany_le hle), .nil⟩
 rintro k F H1 ⟨i, acc, s1, rfl, hile, g0, g1, g8, g9, hg, hout, hal, hgo⟩
 refine T_sr fun K4 hK4 => ?_
 simp [↓put_at, ↓AF.ev_tmp, ↓ex_cons, ↓ex_nil, ↓ex_binOp, aBin, aBinV, frame0, g0, g1, g8, g9]
 refine hK4 _ _ ?_
 try clear hK4 K4
 refine T_seqk fun K5 hK5 => ?_
 refine T_cond (by first | rfl | exact g0 | exact g1 | exact g8 | exact g9) (fun c0 => ?_) (fun c0 => ?_)
 have hlt : i < (rdMany bs s).1 := by simp at c0; omega
 refine T_skip ?_
 try simp only [tN, bN, lN]
 refine hK5 _ _ ?_
 try clear hK5 K5
 refine T_seqk fun K6 hK6 => ?_
 refine T_block ?_
 refine T_mid (fun F H' => F 0 = .ptr id 1 0 0 ∧ F 1 = .bound 56 [.ptr id 1 0 0] ∧ F 8 = pi (rdMany bs s).1 ∧ F 9 = pi i ∧ F 6 = pi (rdNum bs s1).1 ∧ Rdg H H' id bs c (rdNum bs s1).2 ∧ OutIs H.next H' (F 5) 1 (acc.map irow)) ?_ ?_
 refine T_rg ?_
 simp [↓put_at, ↓AF.ev_tmp, ↓ex_cons, ↓ex_nil, ↓ex_move, ↓ex_call, ↓ex_assign, frame0, g0, g1, g8, g9]
 refine callK.of (numIs _ id bs c _ hg.ok) ?_
 rintro _ H2 ⟨rfl, rfl⟩
 simp [↓put_at, ↓AF.ev_tmp, ↓ex_cons, ↓ex_nil, ↓ex_move, ↓ex_call, ↓ex_assign, frame0, g0, g1, g8, g9]
 exact ⟨hg.step (rdNum_le hg.ok.le), hout.keep (by simp) (fun j hj hl => by simp [show j ≠ id by omega])⟩
 rintro F H' ⟨g0, g1, g8, g9, g6, hg, hout⟩
 refine T_seqk fun K7 hK7 => ?_
 refine T_sr fun K8 hK8 => ?_
 simp [↓put_at, ↓AF.ev_tmp, ↓ex_cons, ↓ex_nil, ↓ex_move, ↓ex_nilCheck, ↓ex_fieldAddr, ↓ex_load, ↓ex_binOp, ↓AF.ev_int, aFieldAddr, aload, partOf, aBin, aBinV, frame0, g0, g1, g8, g9, g0, g1, g8, g9, g6, hg.ok.box, rrow, int_bne]
 refine hK8 _ _ ?_
 try clear hK8 K8
 refine T_cond (by first | rfl | exact g0 | exact g1 | exact g8 | exact g9 | exact g0 | exact g1 | exact g8 | exact g9 | exact g6) (fun c1 => ?_) (fun c1 => ?_)
 have he : ¬ (rdNum bs s1).2.e = 0 := by simpa using c1
 refine T_sr fun K9 hK9 => ?_
 simp [↓put_at, ↓AF.ev_tmp, ↓ex_cons, ↓ex_nil, ↓ex_assign, ↓AF.ev_slice, frame0, g0, g1, g8, g9, g0, g1, g8, g9, g6]
 refine hK9 _ _ ?_
 try clear hK9 K9
 refine T_ret ?_
 try simp only [tR, bR, lR]
 have e : rdList bs rdNum s = ([], (rdNum bs s1).2) := by
     unfold rdList; rw [hgo, show (rdMany bs s).1 - i = ((rdMany bs s).1 - (i + 1)) + 1 by omega, rdGo, if_neg he]
 rw [e]
 refine owes_out_at (H1 := H.setBox id [rrow bs c ([], (rdNum bs s1).2).2]) (lo := H.next) (rows := []) (.inr rfl) (hr.wf hwf _) (by simp) rfl (.nil) (by simp) hg.ext ?_
 simp
 have he : (rdNum bs s1).2.e = 0 := by simpa using c1
 refine T_skip ?_
 try simp only [tN, bN, lN]
 refine hK7 _ _ ?_
 try clear hK7 K7
 refine T_rg ?_
 simp [↓put_at, ↓AF.ev_tmp, ↓ex_cons, ↓ex_nil, ↓ex_move, ↓ex_buildSlice, ↓ex_append, ↓ex_assign, abuildSlice, frame0, g0, g1, g8, g9, g0, g1, g8, g9, g6, frzR_id]
 refine appendK.of (aappend_outT (lo := H.next) (rows := acc.map irow) (ys := [irow (rdNum bs s1).1]) ?_ ?_ rfl rfl Tryz.sz3 Tryz.zero3 Tryz.by3 rfl rfl (by decide) ?_ (by intro r hr p hp; rw [List.mem_singleton] at hr; subst hr; exact frozenL _ p hp) ?_ ?_)
 exact hout.keep (by simp) (fun j _ hj => by simp [Nat.ne_of_lt hj])
 have := hg.ext.next; simp at this ⊢; omega
 simp [srcOf, irow]
 simp; omega
 intro p2 H3 hout2 hab hel
 have hext3 : (H.setBox id [rrow bs c (rdNum bs s1).2]).Ext H3 := hab _ (by simp) (.bump (.setBox (by have := hg.ext.next; simp at this ⊢; omega) hg.ext))
 have hg3 : Rdg H H3 id bs c (rdNum bs s1).2 := ⟨⟨by rw [hext3.box id (by simpa using hid)]; simp, hg.ok.le, hg.ok.small⟩, hext3⟩
 simp [↓put_at, ↓AF.ev_tmp, ↓ex_cons, ↓ex_nil, ↓ex_move, ↓ex_buildSlice, ↓ex_append, ↓ex_assign, abuildSlice, frame0, g0, g1, g8, g9, g0, g1, g8, g9, g6, frzR_id]
 refine hK6 _ _ ?_
 try clear hK6 K6
 refine T_rg ?_
 simp [↓put_at, ↓AF.ev_tmp, ↓ex_cons, ↓ex_nil, ↓ex_binOp, ↓AF.ev_int, ↓ex_move, aBin, aBinV, frame0, g0, g1, g8, g9, g0, g1, g8, g9, g6]
 refine ⟨(rdMany bs s).1 - (i + 1), by omega, i + 1, rfl, by omega, by rw [wrap_i64 (by omega) (by omega)]; rfl, acc ++ [(rdNum bs s1).1], (rdNum bs s1).2, hg3, by simpa using hout2, by simp [hal], ?_⟩
 rw [hgo, show (rdMany bs s).1 - i = ((rdMany bs s).1 - (i + 1)) + 1 by omega, rdGo, if_pos he]
 have hge : i = (rdMany bs s).1 := by simp at c0; omega
 subst hge
 refine T_exit ?_
 try simp only [tE, bE, lE, if_true, Nat.reduceEqDiff, if_false, reduceIte, tN, bN, lN]
 refine hK2 _ _ ?_
 try clear hK2 K2
 refine T_sr fun K10 hK10 => ?_
 simp [↓put_at, ↓AF.ev_tmp, ↓ex_cons, ↓ex_nil, ↓ex_move, ↓ex_assign, frame0, g0, g1, g8, g9]
 refine hK10 _ _ ?_
 try clear hK10 K10
 refine T_ret ?_
 try simp only [tR, bR, lR]
 have e : rdList bs rdNum s = (acc, s1) := by
     unfold rdList; rw [hgo, Nat.sub_self]; rfl
 rw [e]
 refine owes_out_at (H1 := H.setBox id [rrow bs c (acc, s1).2]) (lo := H.next) (rows := acc.map irow) (.inr rfl) (hr.wf hwf _) (by simp) rfl (hout) (by simp) hg.ext ?_
 intro r hr p hp
 obtain ⟨x, _, rfl⟩ := List.mem_map.1 hr
 exact below_irow _ x p hp
end Go.Abs
