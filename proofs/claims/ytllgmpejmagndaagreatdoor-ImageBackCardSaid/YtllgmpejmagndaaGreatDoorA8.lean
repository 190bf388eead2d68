/- Texts of ours, merged: the abstract layer, the walks over the loaded functions, the plain laws. -/
import Derived.Test.YtllgmpejmagndaaGreatDoorA7
import Derived.Test.YtllgmpejmagndaaGreatDoorA2
import Derived.Lib.LaidTab
import Derived.OpenShut
import Derived.MakeChecks
import Derived.Test.YtllgmpejmagndaaGreatDoorRows
import Derived.Test.YtllgmpejmagndaaGreatDoorTie
import Derived.Test.YtllgmpejmagndaaGreatDoorCards
import Derived.ProofKit
import Derived.LaidMore
import Derived.Stop.Joined
namespace Go.Abs
open Go.Proofs
set_option autoImplicit false
set_option linter.all false
def DFlat.Small (x : DFlat) : Prop := x.ops.length * 88 ≤ 2 ^ 47 ∧ x.loops.length * 24 ≤ 2 ^ 47
def DJob.Small (x : DJob) : Prop := x.codes.length * 8 ≤ 2 ^ 47 ∧ x.bases.length * 8 ≤ 2 ^ 47
def DImage.Small (x : DImage) : Prop := x.cells.length * 96 ≤ 2 ^ 47 ∧ x.codes.length * 104 ≤ 2 ^ 47 ∧ x.jobs.length * 96 ≤ 2 ^ 47 ∧ (∀ f ∈ x.codes, f.Small) ∧ ∀ j ∈ x.jobs, j.Small
theorem part_irow (x : Int) : partOf Tryz.prog 3 (irow x) 0 = some (pi x) := by simp [partOf, irow]
set_option maxRecDepth 100000 in
theorem eqCell' (a b : DCell) (d : Nat) : aEqIn Tryz.prog (d + 3) 44 (.agg a.row) (.agg b.row) = some (decide (a = b)) := by
 simp [aEqIn, Program.fieldsOf, aEqIn.go, partOf, aEqCell, DCell.row, beq_bytes]
 rw [Bool.eq_iff_iff]; cases a; cases b; simp [DVal.ext_iff, and_assoc]
theorem eqCell (a b : DCell) : aEqIn Tryz.prog Op.maxDepth 44 (.agg a.row) (.agg b.row) = some (decide (a = b)) := eqCell' a b 9997
set_option maxRecDepth 100000 in
theorem eqOp' (a b : DOp) (d : Nat) : aEqIn Tryz.prog (d + 3) 50 (.agg a.row) (.agg b.row) = some (decide (a = b)) := by
 simp [aEqIn, Program.fieldsOf, aEqIn.go, partOf, aEqCell, DOp.row, beq_bytes]
 rw [Bool.eq_iff_iff]; cases a; cases b; simp [DVal.ext_iff, and_assoc]
theorem eqOp (a b : DOp) : aEqIn Tryz.prog Op.maxDepth 50 (.agg a.row) (.agg b.row) = some (decide (a = b)) := eqOp' a b 9997
set_option maxRecDepth 100000 in
theorem eqLoop' (a b : DLoop) (d : Nat) : aEqIn Tryz.prog (d + 3) 52 (.agg a.row) (.agg b.row) = some (decide (a = b)) := by
 simp [aEqIn, Program.fieldsOf, aEqIn.go, partOf, aEqCell, DLoop.row, beq_bytes]
 rw [Bool.eq_iff_iff]; cases a; cases b; simp
theorem eqLoop (a b : DLoop) : aEqIn Tryz.prog Op.maxDepth 52 (.agg a.row) (.agg b.row) = some (decide (a = b)) := eqLoop' a b 9997
@[simp] theorem gd44 : Tryz.prog.eqGuardType Tryz.prog.depth 44 = false := by kernel_rfl
@[simp] theorem gd50 : Tryz.prog.eqGuardType Tryz.prog.depth 50 = false := by kernel_rfl
@[simp] theorem gd52 : Tryz.prog.eqGuardType Tryz.prog.depth 52 = false := by kernel_rfl
theorem part_jobs (c : Nat) (x : DImage) : partOf Tryz.prog 24 (x.row c) 3 = some (PV.sl c 7 (x.jobs.map (DJob.row c))) := by simp [partOf, DImage.row]
set_option maxRecDepth 100000 in
theorem eqInts (H : AS) (c d : Nat) (xs ys : List Int) (hx : xs.length < 2 ^ 62) : ACalls Tryz.prog 64 [PV.sl c 1 (xs.map irow), PV.sl d 1 (ys.map irow)] H fun r H' => r = .val (.bool (decide (xs = ys))) ∧ H' = H := by
 refine ACalls_intro Tryz.func64 rfl (by kernel_rfl) (by simp) fun hwf hbel => ?_
 refine T_sr fun K0 hK0 => ?_
 simp [↓put_at, ↓AF.ev_tmp, ↓ex_cons, ↓ex_nil, ↓ex_assign, ↓AF.ev_bool, frame0]
 refine hK0 _ _ ?_
 try clear hK0 K0
 refine T_seqk fun K1 hK1 => ?_
 refine T_sr fun K2 hK2 => ?_
 simp [↓put_at, ↓AF.ev_tmp, ↓ex_cons, ↓ex_nil, ↓ex_move, ↓ex_len, ↓ex_binOp, aLen, aBin, aBinV, frame0]
 refine hK2 _ _ ?_
 try clear hK2 K2
 refine T_cond (rfl) (fun c0 => ?_) (fun c0 => ?_)
 simp at c0
 refine T_sr fun K3 hK3 => ?_
 simp [↓put_at, ↓AF.ev_tmp, ↓ex_cons, ↓ex_nil, ↓ex_assign, ↓AF.ev_bool, frame0]
 refine hK3 _ _ ?_
 try clear hK3 K3
 refine T_ret ?_
 try simp only [thenK_ret, blockT_ret, loopT_ret, jumpT_ret]
 refine owes_pure (.inr rfl) hwf rfl ?_ ?_ ?_
 simp [frzVs, frzV, frz]; exact .refl _
 simp [frzVs, frzV, frz]
 simp [frzVs, frzV, frz, packed]
 intro e; subst e; simp at c0
 have hyl : ys.length = xs.length := by simp at c0; omega
 refine T_skip ?_
 try simp only [tN, bN, lN]
 refine hK1 _ _ ?_
 try clear hK1 K1
 refine T_seqk fun K4 hK4 => ?_
 refine T_sr fun K5 hK5 => ?_
 simp [↓put_at, ↓AF.ev_tmp, ↓ex_cons, ↓ex_nil, ↓ex_move, ↓ex_len, ↓AF.ev_int, aLen, frame0]
 refine hK5 _ _ ?_
 try clear hK5 K5
 refine T_block ?_
 refine T_loop (fun k F H' => ∃ i : Nat, k = xs.length - i ∧ i ≤ xs.length ∧ F 0 = PV.sl c 1 (xs.map irow) ∧ F 1 = PV.sl d 1 (ys.map irow) ∧ F 12 = .val (.int .i64 xs.length) ∧ F 13 = .val (.int .i64 i) ∧ H = H' ∧ xs.take i = ys.take i) (xs.length) ?_ ?_
 refine ⟨0, ?_⟩
 simp [frame0]
 rintro k F H' ⟨i, rfl, hi, h0, h1, h12, h13, rfl, htake⟩
 refine T_sr fun K6 hK6 => ?_
 simp [↓put_at, ↓AF.ev_tmp, ↓ex_cons, ↓ex_nil, ↓ex_binOp, aBin, aBinV, frame0, h0, h1, h12, h13]
 refine hK6 _ _ ?_
 try clear hK6 K6
 refine T_seqk fun K7 hK7 => ?_
 refine T_cond (by first | rfl | exact h0 | exact h1 | exact h12 | exact h13) (fun c1 => ?_) (fun c1 => ?_)
 have hlt : i < xs.length := by simpa using c1
 refine T_skip ?_
 try simp only [tN, bN, lN]
 refine hK7 _ _ ?_
 try clear hK7 K7
 refine T_seqk fun K8 hK8 => ?_
 refine T_block ?_
 refine T_sr fun K9 hK9 => ?_
 simp [↓put_at, ↓AF.ev_tmp, ↓ex_cons, ↓ex_nil, ↓ex_move, ↓ex_assign, frame0, h0, h1, h12, h13]
 refine hK9 _ _ ?_
 try clear hK9 K9
 refine T_seqk fun K10 hK10 => ?_
 refine T_draw (fun _ => True) [] (.free 0 (.free 1 (.free 2 (.free 3 (.free 4 (.free 5 (.free 6 (.free 7 (.free 8 .done))))))))) mix ?_ ?_ ?_
 kernel_rfl
 kernel_rfl
 have hlt' : i < ys.length := by omega
 simp [↓put_at, ↓AF.ev_tmp, ↓wk_free, ↓wk_sole, ↓wk_done, ↓wanted_none, Keeps, Same, ↓wk_move, ↓wk_indexAddr, ↓wk_load, ↓wk_binOp, aIndexAddr, aload, aBin, aBinV, frame0, h0, h1, h12, h13, aIndexAddr, sl_get (map_get (f := irow) hlt), sl_get (map_get (f := irow) hlt'), aload, part_irow, aBin, aBinV]
 refine hK10 _ _ ?_
 try clear hK10 K10
 refine T_cond (by first | rfl | exact h0 | exact h1 | exact h12 | exact h13) (fun c2 => ?_) (fun c2 => ?_)
 refine T_sr fun K11 hK11 => ?_
 simp [↓put_at, ↓AF.ev_tmp, ↓ex_cons, ↓ex_nil, ↓ex_assign, ↓AF.ev_bool, frame0, h0, h1, h12, h13]
 refine hK11 _ _ ?_
 try clear hK11 K11
 refine T_ret ?_
 try simp only [thenK_ret, blockT_ret, loopT_ret, jumpT_ret]
 refine owes_pure (.inr rfl) hwf rfl ?_ ?_ ?_
 simp [frzVs, frzV, frz]; exact .refl _
 simp [frzVs, frzV, frz]
 simp [frzVs, frzV, frz, packed]
 intro e; subst e; simp at c2
 have heq : xs[i] = ys[i] := by simpa using c2
 refine T_skip ?_
 try simp only [tN, bN, lN]
 refine hK8 _ _ ?_
 try clear hK8 K8
 refine T_rg ?_
 simp [↓put_at, ↓AF.ev_tmp, ↓ex_cons, ↓ex_nil, ↓ex_binOp, ↓AF.ev_int, ↓ex_move, aBin, aBinV, frame0, h0, h1, h12, h13]
 refine ⟨xs.length - (i + 1), by omega, i + 1, rfl, by omega, ?_⟩
 simp [h0, h1, h12, h13]
 rw [wrap_i64 (by omega) (by omega)]
 refine ⟨rfl, ?_⟩
 rw [List.take_succ_eq_append_getElem hlt, List.take_succ_eq_append_getElem hlt', htake, heq]
 have hge : xs.length ≤ i := by simpa using c1
 refine T_exit ?_
 try simp only [tE, bE, lE, if_true, Nat.reduceEqDiff, if_false, reduceIte, tN, bN, lN]
 refine hK4 _ _ ?_
 try clear hK4 K4
 refine T_sr fun K12 hK12 => ?_
 simp [↓put_at, ↓AF.ev_tmp, ↓ex_cons, ↓ex_nil, ↓ex_assign, ↓AF.ev_bool, frame0, h0, h1, h12, h13]
 refine hK12 _ _ ?_
 try clear hK12 K12
 refine T_ret ?_
 try simp only [thenK_ret, blockT_ret, loopT_ret, jumpT_ret]
 refine owes_pure (.inr rfl) hwf rfl ?_ ?_ ?_
 simp [frzVs, frzV, frz]; exact .refl _
 simp [frzVs, frzV, frz]
 simp [frzVs, frzV, frz, packed]
 rw [List.take_of_length_le hge, List.take_of_length_le (by omega)] at htake
 exact htake
set_option maxRecDepth 100000 in
theorem eqCells (H : AS) (c d : Nat) (xs ys : List DCell) (hx : xs.length < 2 ^ 62) : ACalls Tryz.prog 29 [PV.sl c 11 (xs.map DCell.row), PV.sl d 11 (ys.map DCell.row)] H fun r H' => r = .val (.bool (decide (xs = ys))) ∧ H' = H := by
 refine ACalls_intro Tryz.func29 rfl (by kernel_rfl) (by simp) fun hwf hbel => ?_
 refine T_sr fun K0 hK0 => ?_
 simp [↓put_at, ↓AF.ev_tmp, ↓ex_cons, ↓ex_nil, ↓ex_assign, ↓AF.ev_bool, frame0]
 refine hK0 _ _ ?_
 try clear hK0 K0
 refine T_seqk fun K1 hK1 => ?_
 refine T_sr fun K2 hK2 => ?_
 simp [↓put_at, ↓AF.ev_tmp, ↓ex_cons, ↓ex_nil, ↓ex_move, ↓ex_len, ↓ex_binOp, aLen, aBin, aBinV, frame0]
 refine hK2 _ _ ?_
 try clear hK2 K2
 refine T_cond (rfl) (fun c0 => ?_) (fun c0 => ?_)
 simp at c0
 refine T_sr fun K3 hK3 => ?_
 simp [↓put_at, ↓AF.ev_tmp, ↓ex_cons, ↓ex_nil, ↓ex_assign, ↓AF.ev_bool, frame0]
 refine hK3 _ _ ?_
 try clear hK3 K3
 refine T_ret ?_
 try simp only [thenK_ret, blockT_ret, loopT_ret, jumpT_ret]
 refine owes_pure (.inr rfl) hwf rfl ?_ ?_ ?_
 simp [frzVs, frzV, frz]; exact .refl _
 simp [frzVs, frzV, frz]
 simp [frzVs, frzV, frz, packed]
 intro e; subst e; simp at c0
 have hyl : ys.length = xs.length := by simp at c0; omega
 refine T_skip ?_
 try simp only [tN, bN, lN]
 refine hK1 _ _ ?_
 try clear hK1 K1
 refine T_seqk fun K4 hK4 => ?_
 refine T_sr fun K5 hK5 => ?_
 simp [↓put_at, ↓AF.ev_tmp, ↓ex_cons, ↓ex_nil, ↓ex_move, ↓ex_len, ↓AF.ev_int, aLen, frame0]
 refine hK5 _ _ ?_
 try clear hK5 K5
 refine T_block ?_
 refine T_loop (fun k F H' => ∃ i : Nat, k = xs.length - i ∧ i ≤ xs.length ∧ F 0 = PV.sl c 11 (xs.map DCell.row) ∧ F 1 = PV.sl d 11 (ys.map DCell.row) ∧ F 12 = .val (.int .i64 xs.length) ∧ F 13 = .val (.int .i64 i) ∧ H = H' ∧ xs.take i = ys.take i) (xs.length) ?_ ?_
 refine ⟨0, ?_⟩
 simp [frame0]
 rintro k F H' ⟨i, rfl, hi, h0, h1, h12, h13, rfl, htake⟩
 refine T_sr fun K6 hK6 => ?_
 simp [↓put_at, ↓AF.ev_tmp, ↓ex_cons, ↓ex_nil, ↓ex_binOp, aBin, aBinV, frame0, h0, h1, h12, h13]
 refine hK6 _ _ ?_
 try clear hK6 K6
 refine T_seqk fun K7 hK7 => ?_
 refine T_cond (by first | rfl | exact h0 | exact h1 | exact h12 | exact h13) (fun c1 => ?_) (fun c1 => ?_)
 have hlt : i < xs.length := by simpa using c1
 refine T_skip ?_
 try simp only [tN, bN, lN]
 refine hK7 _ _ ?_
 try clear hK7 K7
 refine T_seqk fun K8 hK8 => ?_
 refine T_block ?_
 refine T_sr fun K9 hK9 => ?_
 simp [↓put_at, ↓AF.ev_tmp, ↓ex_cons, ↓ex_nil, ↓ex_move, ↓ex_assign, frame0, h0, h1, h12, h13]
 refine hK9 _ _ ?_
 try clear hK9 K9
 refine T_seqk fun K10 hK10 => ?_
 refine T_draw (fun _ => True) [] (.free 0 (.free 1 (.free 2 (.free 3 (.free 4 (.free 5 (.free 6 (.free 7 (.free 8 .done))))))))) mix ?_ ?_ ?_
 kernel_rfl
 kernel_rfl
 have hlt' : i < ys.length := by omega
 simp [↓put_at, ↓AF.ev_tmp, ↓wk_free, ↓wk_sole, ↓wk_done, ↓wanted_none, Keeps, Same, ↓wk_move, ↓wk_indexAddr, ↓wk_load, ↓wk_binOp, aIndexAddr, aload, aBin, aBinV, frame0, h0, h1, h12, h13, aIndexAddr, sl_get (map_get (f := DCell.row) hlt), sl_get (map_get (f := DCell.row) hlt'), aload, part_cell, aBin, eqCell]
 refine hK10 _ _ ?_
 try clear hK10 K10
 refine T_cond (by first | rfl | exact h0 | exact h1 | exact h12 | exact h13) (fun c2 => ?_) (fun c2 => ?_)
 refine T_sr fun K11 hK11 => ?_
 simp [↓put_at, ↓AF.ev_tmp, ↓ex_cons, ↓ex_nil, ↓ex_assign, ↓AF.ev_bool, frame0, h0, h1, h12, h13]
 refine hK11 _ _ ?_
 try clear hK11 K11
 refine T_ret ?_
 try simp only [thenK_ret, blockT_ret, loopT_ret, jumpT_ret]
 refine owes_pure (.inr rfl) hwf rfl ?_ ?_ ?_
 simp [frzVs, frzV, frz]; exact .refl _
 simp [frzVs, frzV, frz]
 simp [frzVs, frzV, frz, packed]
 intro e; subst e; simp at c2
 have heq : xs[i] = ys[i] := by simpa using c2
 refine T_skip ?_
 try simp only [tN, bN, lN]
 refine hK8 _ _ ?_
 try clear hK8 K8
 refine T_rg ?_
 simp [↓put_at, ↓AF.ev_tmp, ↓ex_cons, ↓ex_nil, ↓ex_binOp, ↓AF.ev_int, ↓ex_move, aBin, aBinV, frame0, h0, h1, h12, h13]
 refine ⟨xs.length - (i + 1), by omega, i + 1, rfl, by omega, ?_⟩
 simp [h0, h1, h12, h13]
 rw [wrap_i64 (by omega) (by omega)]
 refine ⟨rfl, ?_⟩
 rw [List.take_succ_eq_append_getElem hlt, List.take_succ_eq_append_getElem hlt', htake, heq]
 have hge : xs.length ≤ i := by simpa using c1
 refine T_exit ?_
 try simp only [tE, bE, lE, if_true, Nat.reduceEqDiff, if_false, reduceIte, tN, bN, lN]
 refine hK4 _ _ ?_
 try clear hK4 K4
 refine T_sr fun K12 hK12 => ?_
 simp [↓put_at, ↓AF.ev_tmp, ↓ex_cons, ↓ex_nil, ↓ex_assign, ↓AF.ev_bool, frame0, h0, h1, h12, h13]
 refine hK12 _ _ ?_
 try clear hK12 K12
 refine T_ret ?_
 try simp only [thenK_ret, blockT_ret, loopT_ret, jumpT_ret]
 refine owes_pure (.inr rfl) hwf rfl ?_ ?_ ?_
 simp [frzVs, frzV, frz]; exact .refl _
 simp [frzVs, frzV, frz]
 simp [frzVs, frzV, frz, packed]
 rw [List.take_of_length_le hge, List.take_of_length_le (by omega)] at htake
 exact htake
set_option maxRecDepth 100000 in
theorem eqOps (H : AS) (c d : Nat) (xs ys : List DOp) (hx : xs.length < 2 ^ 62) : ACalls Tryz.prog 87 [PV.sl c 10 (xs.map DOp.row), PV.sl d 10 (ys.map DOp.row)] H fun r H' => r = .val (.bool (decide (xs = ys))) ∧ H' = H := by
 refine ACalls_intro Tryz.func87 rfl (by kernel_rfl) (by simp) fun hwf hbel => ?_
 refine T_sr fun K0 hK0 => ?_
 simp [↓put_at, ↓AF.ev_tmp, ↓ex_cons, ↓ex_nil, ↓ex_assign, ↓AF.ev_bool, frame0]
 refine hK0 _ _ ?_
 try clear hK0 K0
 refine T_seqk fun K1 hK1 => ?_
 refine T_sr fun K2 hK2 => ?_
 simp [↓put_at, ↓AF.ev_tmp, ↓ex_cons, ↓ex_nil, ↓ex_move, ↓ex_len, ↓ex_binOp, aLen, aBin, aBinV, frame0]
 refine hK2 _ _ ?_
 try clear hK2 K2
 refine T_cond (rfl) (fun c0 => ?_) (fun c0 => ?_)
 simp at c0
 refine T_sr fun K3 hK3 => ?_
 simp [↓put_at, ↓AF.ev_tmp, ↓ex_cons, ↓ex_nil, ↓ex_assign, ↓AF.ev_bool, frame0]
 refine hK3 _ _ ?_
 try clear hK3 K3
 refine T_ret ?_
 try simp only [thenK_ret, blockT_ret, loopT_ret, jumpT_ret]
 refine owes_pure (.inr rfl) hwf rfl ?_ ?_ ?_
 simp [frzVs, frzV, frz]; exact .refl _
 simp [frzVs, frzV, frz]
 simp [frzVs, frzV, frz, packed]
 intro e; subst e; simp at c0
 have hyl : ys.length = xs.length := by simp at c0; omega
 refine T_skip ?_
 try simp only [tN, bN, lN]
 refine hK1 _ _ ?_
 try clear hK1 K1
 refine T_seqk fun K4 hK4 => ?_
 refine T_sr fun K5 hK5 => ?_
 simp [↓put_at, ↓AF.ev_tmp, ↓ex_cons, ↓ex_nil, ↓ex_move, ↓ex_len, ↓AF.ev_int, aLen, frame0]
 refine hK5 _ _ ?_
 try clear hK5 K5
 refine T_block ?_
 refine T_loop (fun k F H' => ∃ i : Nat, k = xs.length - i ∧ i ≤ xs.length ∧ F 0 = PV.sl c 10 (xs.map DOp.row) ∧ F 1 = PV.sl d 10 (ys.map DOp.row) ∧ F 12 = .val (.int .i64 xs.length) ∧ F 13 = .val (.int .i64 i) ∧ H = H' ∧ xs.take i = ys.take i) (xs.length) ?_ ?_
 refine ⟨0, ?_⟩
 simp [frame0]
 rintro k F H' ⟨i, rfl, hi, h0, h1, h12, h13, rfl, htake⟩
 refine T_sr fun K6 hK6 => ?_
 simp [↓put_at, ↓AF.ev_tmp, ↓ex_cons, ↓ex_nil, ↓ex_binOp, aBin, aBinV, frame0, h0, h1, h12, h13]
 refine hK6 _ _ ?_
 try clear hK6 K6
 refine T_seqk fun K7 hK7 => ?_
 refine T_cond (by first | rfl | exact h0 | exact h1 | exact h12 | exact h13) (fun c1 => ?_) (fun c1 => ?_)
 have hlt : i < xs.length := by simpa using c1
 refine T_skip ?_
 try simp only [tN, bN, lN]
 refine hK7 _ _ ?_
 try clear hK7 K7
 refine T_seqk fun K8 hK8 => ?_
 refine T_block ?_
 refine T_sr fun K9 hK9 => ?_
 simp [↓put_at, ↓AF.ev_tmp, ↓ex_cons, ↓ex_nil, ↓ex_move, ↓ex_assign, frame0, h0, h1, h12, h13]
 refine hK9 _ _ ?_
 try clear hK9 K9
 refine T_seqk fun K10 hK10 => ?_
 refine T_draw (fun _ => True) [] (.free 0 (.free 1 (.free 2 (.free 3 (.free 4 (.free 5 (.free 6 (.free 7 (.free 8 .done))))))))) mix ?_ ?_ ?_
 kernel_rfl
 kernel_rfl
 have hlt' : i < ys.length := by omega
 simp [↓put_at, ↓AF.ev_tmp, ↓wk_free, ↓wk_sole, ↓wk_done, ↓wanted_none, Keeps, Same, ↓wk_move, ↓wk_indexAddr, ↓wk_load, ↓wk_binOp, aIndexAddr, aload, aBin, aBinV, frame0, h0, h1, h12, h13, aIndexAddr, sl_get (map_get (f := DOp.row) hlt), sl_get (map_get (f := DOp.row) hlt'), aload, part_op, aBin, eqOp]
 refine hK10 _ _ ?_
 try clear hK10 K10
 refine T_cond (by first | rfl | exact h0 | exact h1 | exact h12 | exact h13) (fun c2 => ?_) (fun c2 => ?_)
 refine T_sr fun K11 hK11 => ?_
 simp [↓put_at, ↓AF.ev_tmp, ↓ex_cons, ↓ex_nil, ↓ex_assign, ↓AF.ev_bool, frame0, h0, h1, h12, h13]
 refine hK11 _ _ ?_
 try clear hK11 K11
 refine T_ret ?_
 try simp only [thenK_ret, blockT_ret, loopT_ret, jumpT_ret]
 refine owes_pure (.inr rfl) hwf rfl ?_ ?_ ?_
 simp [frzVs, frzV, frz]; exact .refl _
 simp [frzVs, frzV, frz]
 simp [frzVs, frzV, frz, packed]
 intro e; subst e; simp at c2
 have heq : xs[i] = ys[i] := by simpa using c2
 refine T_skip ?_
 try simp only [tN, bN, lN]
 refine hK8 _ _ ?_
 try clear hK8 K8
 refine T_rg ?_
 simp [↓put_at, ↓AF.ev_tmp, ↓ex_cons, ↓ex_nil, ↓ex_binOp, ↓AF.ev_int, ↓ex_move, aBin, aBinV, frame0, h0, h1, h12, h13]
 refine ⟨xs.length - (i + 1), by omega, i + 1, rfl, by omega, ?_⟩
 simp [h0, h1, h12, h13]
 rw [wrap_i64 (by omega) (by omega)]
 refine ⟨rfl, ?_⟩
 rw [List.take_succ_eq_append_getElem hlt, List.take_succ_eq_append_getElem hlt', htake, heq]
 have hge : xs.length ≤ i := by simpa using c1
 refine T_exit ?_
 try simp only [tE, bE, lE, if_true, Nat.reduceEqDiff, if_false, reduceIte, tN, bN, lN]
 refine hK4 _ _ ?_
 try clear hK4 K4
 refine T_sr fun K12 hK12 => ?_
 simp [↓put_at, ↓AF.ev_tmp, ↓ex_cons, ↓ex_nil, ↓ex_assign, ↓AF.ev_bool, frame0, h0, h1, h12, h13]
 refine hK12 _ _ ?_
 try clear hK12 K12
 refine T_ret ?_
 try simp only [thenK_ret, blockT_ret, loopT_ret, jumpT_ret]
 refine owes_pure (.inr rfl) hwf rfl ?_ ?_ ?_
 simp [frzVs, frzV, frz]; exact .refl _
 simp [frzVs, frzV, frz]
 simp [frzVs, frzV, frz, packed]
 rw [List.take_of_length_le hge, List.take_of_length_le (by omega)] at htake
 exact htake
set_option maxRecDepth 100000 in
theorem eqLoops (H : AS) (c d : Nat) (xs ys : List DLoop) (hx : xs.length < 2 ^ 62) : ACalls Tryz.prog 88 [PV.sl c 3 (xs.map DLoop.row), PV.sl d 3 (ys.map DLoop.row)] H fun r H' => r = .val (.bool (decide (xs = ys))) ∧ H' = H := by
 refine ACalls_intro Tryz.func88 rfl (by kernel_rfl) (by simp) fun hwf hbel => ?_
 refine T_sr fun K0 hK0 => ?_
 simp [↓put_at, ↓AF.ev_tmp, ↓ex_cons, ↓ex_nil, ↓ex_assign, ↓AF.ev_bool, frame0]
 refine hK0 _ _ ?_
 try clear hK0 K0
 refine T_seqk fun K1 hK1 => ?_
 refine T_sr fun K2 hK2 => ?_
 simp [↓put_at, ↓AF.ev_tmp, ↓ex_cons, ↓ex_nil, ↓ex_move, ↓ex_len, ↓ex_binOp, aLen, aBin, aBinV, frame0]
 refine hK2 _ _ ?_
 try clear hK2 K2
 refine T_cond (rfl) (fun c0 => ?_) (fun c0 => ?_)
 simp at c0
 refine T_sr fun K3 hK3 => ?_
 simp [↓put_at, ↓AF.ev_tmp, ↓ex_cons, ↓ex_nil, ↓ex_assign, ↓AF.ev_bool, frame0]
 refine hK3 _ _ ?_
 try clear hK3 K3
 refine T_ret ?_
 try simp only [thenK_ret, blockT_ret, loopT_ret, jumpT_ret]
 refine owes_pure (.inr rfl) hwf rfl ?_ ?_ ?_
 simp [frzVs, frzV, frz]; exact .refl _
 simp [frzVs, frzV, frz]
 simp [frzVs, frzV, frz, packed]
 intro e; subst e; simp at c0
 have hyl : ys.length = xs.length := by simp at c0; omega
 refine T_skip ?_
 try simp only [tN, bN, lN]
 refine hK1 _ _ ?_
 try clear hK1 K1
 refine T_seqk fun K4 hK4 => ?_
 refine T_sr fun K5 hK5 => ?_
 simp [↓put_at, ↓AF.ev_tmp, ↓ex_cons, ↓ex_nil, ↓ex_move, ↓ex_len, ↓AF.ev_int, aLen, frame0]
 refine hK5 _ _ ?_
 try clear hK5 K5
 refine T_block ?_
 refine T_loop (fun k F H' => ∃ i : Nat, k = xs.length - i ∧ i ≤ xs.length ∧ F 0 = PV.sl c 3 (xs.map DLoop.row) ∧ F 1 = PV.sl d 3 (ys.map DLoop.row) ∧ F 12 = .val (.int .i64 xs.length) ∧ F 13 = .val (.int .i64 i) ∧ H = H' ∧ xs.take i = ys.take i) (xs.length) ?_ ?_
 refine ⟨0, ?_⟩
 simp [frame0]
 rintro k F H' ⟨i, rfl, hi, h0, h1, h12, h13, rfl, htake⟩
 refine T_sr fun K6 hK6 => ?_
 simp [↓put_at, ↓AF.ev_tmp, ↓ex_cons, ↓ex_nil, ↓ex_binOp, aBin, aBinV, frame0, h0, h1, h12, h13]
 refine hK6 _ _ ?_
 try clear hK6 K6
 refine T_seqk fun K7 hK7 => ?_
 refine T_cond (by first | rfl | exact h0 | exact h1 | exact h12 | exact h13) (fun c1 => ?_) (fun c1 => ?_)
 have hlt : i < xs.length := by simpa using c1
 refine T_skip ?_
 try simp only [tN, bN, lN]
 refine hK7 _ _ ?_
 try clear hK7 K7
 refine T_seqk fun K8 hK8 => ?_
 refine T_block ?_
 refine T_sr fun K9 hK9 => ?_
 simp [↓put_at, ↓AF.ev_tmp, ↓ex_cons, ↓ex_nil, ↓ex_move, ↓ex_assign, frame0, h0, h1, h12, h13]
 refine hK9 _ _ ?_
 try clear hK9 K9
 refine T_seqk fun K10 hK10 => ?_
 refine T_draw (fun _ => True) [] (.free 0 (.free 1 (.free 2 (.free 3 (.free 4 (.free 5 (.free 6 (.free 7 (.free 8 .done))))))))) mix ?_ ?_ ?_
 kernel_rfl
 kernel_rfl
 have hlt' : i < ys.length := by omega
 simp [↓put_at, ↓AF.ev_tmp, ↓wk_free, ↓wk_sole, ↓wk_done, ↓wanted_none, Keeps, Same, ↓wk_move, ↓wk_indexAddr, ↓wk_load, ↓wk_binOp, aIndexAddr, aload, aBin, aBinV, frame0, h0, h1, h12, h13, aIndexAddr, sl_get (map_get (f := DLoop.row) hlt), sl_get (map_get (f := DLoop.row) hlt'), aload, part_loop, aBin, eqLoop]
 refine hK10 _ _ ?_
 try clear hK10 K10
 refine T_cond (by first | rfl | exact h0 | exact h1 | exact h12 | exact h13) (fun c2 => ?_) (fun c2 => ?_)
 refine T_sr fun K11 hK11 => ?_
 simp [↓put_at, ↓AF.ev_tmp, ↓ex_cons, ↓ex_nil, ↓ex_assign, ↓AF.ev_bool, frame0, h0, h1, h12, h13]
 refine hK11 _ _ ?_
 try clear hK11 K11
 refine T_ret ?_
 try simp only [thenK_ret, blockT_ret, loopT_ret, jumpT_ret]
 refine owes_pure (.inr rfl) hwf rfl ?_ ?_ ?_
 simp [frzVs, frzV, frz]; exact .refl _
 simp [frzVs, frzV, frz]
 simp [frzVs, frzV, frz, packed]
 intro e; subst e; simp at c2
 have heq : xs[i] = ys[i] := by simpa using c2
 refine T_skip ?_
 try simp only [tN, bN, lN]
 refine hK8 _ _ ?_
 try clear hK8 K8
 refine T_rg ?_
 simp [↓put_at, ↓AF.ev_tmp, ↓ex_cons, ↓ex_nil, ↓ex_binOp, ↓AF.ev_int, ↓ex_move, aBin, aBinV, frame0, h0, h1, h12, h13]
 refine ⟨xs.length - (i + 1), by omega, i + 1, rfl, by omega, ?_⟩
 simp [h0, h1, h12, h13]
 rw [wrap_i64 (by omega) (by omega)]
 refine ⟨rfl, ?_⟩
 rw [List.take_succ_eq_append_getElem hlt, List.take_succ_eq_append_getElem hlt', htake, heq]
 have hge : xs.length ≤ i := by simpa using c1
 refine T_exit ?_
 try simp only [tE, bE, lE, if_true, Nat.reduceEqDiff, if_false, reduceIte, tN, bN, lN]
 refine hK4 _ _ ?_
 try clear hK4 K4
 refine T_sr fun K12 hK12 => ?_
 simp [↓put_at, ↓AF.ev_tmp, ↓ex_cons, ↓ex_nil, ↓ex_assign, ↓AF.ev_bool, frame0, h0, h1, h12, h13]
 refine hK12 _ _ ?_
 try clear hK12 K12
 refine T_ret ?_
 try simp only [thenK_ret, blockT_ret, loopT_ret, jumpT_ret]
 refine owes_pure (.inr rfl) hwf rfl ?_ ?_ ?_
 simp [frzVs, frzV, frz]; exact .refl _
 simp [frzVs, frzV, frz]
 simp [frzVs, frzV, frz, packed]
 rw [List.take_of_length_le hge, List.take_of_length_le (by omega)] at htake
 exact htake
set_option maxRecDepth 100000 in
theorem eqBytes (H : AS) (c d : Nat) (xs ys : List UInt8) (hx : xs.length < 2 ^ 62) : ACalls Tryz.prog 14 [PV.sl c 1 (xs.map brow), PV.sl d 1 (ys.map brow)] H fun r H' => r = .val (.bool (decide (xs = ys))) ∧ H' = H := by
 refine ACalls_intro Tryz.func14 rfl (by kernel_rfl) (by simp) fun hwf hbel => ?_
 refine T_sr fun K0 hK0 => ?_
 simp [↓put_at, ↓AF.ev_tmp, ↓ex_cons, ↓ex_nil, ↓ex_assign, ↓AF.ev_bool, frame0]
 refine hK0 _ _ ?_
 try clear hK0 K0
 refine T_seqk fun K1 hK1 => ?_
 refine T_sr fun K2 hK2 => ?_
 simp [↓put_at, ↓AF.ev_tmp, ↓ex_cons, ↓ex_nil, ↓ex_move, ↓ex_len, ↓ex_binOp, aLen, aBin, aBinV, frame0]
 refine hK2 _ _ ?_
 try clear hK2 K2
 refine T_cond (rfl) (fun c0 => ?_) (fun c0 => ?_)
 simp at c0
 refine T_sr fun K3 hK3 => ?_
 simp [↓put_at, ↓AF.ev_tmp, ↓ex_cons, ↓ex_nil, ↓ex_assign, ↓AF.ev_bool, frame0]
 refine hK3 _ _ ?_
 try clear hK3 K3
 refine T_ret ?_
 try simp only [thenK_ret, blockT_ret, loopT_ret, jumpT_ret]
 refine owes_pure (.inr rfl) hwf rfl ?_ ?_ ?_
 simp [frzVs, frzV, frz]; exact .refl _
 simp [frzVs, frzV, frz]
 simp [frzVs, frzV, frz, packed]
 intro e; subst e; simp at c0
 have hyl : ys.length = xs.length := by simp at c0; omega
 refine T_skip ?_
 try simp only [tN, bN, lN]
 refine hK1 _ _ ?_
 try clear hK1 K1
 refine T_seqk fun K4 hK4 => ?_
 refine T_sr fun K5 hK5 => ?_
 simp [↓put_at, ↓AF.ev_tmp, ↓ex_cons, ↓ex_nil, ↓ex_move, ↓ex_len, ↓AF.ev_int, aLen, frame0]
 refine hK5 _ _ ?_
 try clear hK5 K5
 refine T_block ?_
 refine T_loop (fun k F H' => ∃ i : Nat, k = xs.length - i ∧ i ≤ xs.length ∧ F 0 = PV.sl c 1 (xs.map brow) ∧ F 1 = PV.sl d 1 (ys.map brow) ∧ F 12 = .val (.int .i64 xs.length) ∧ F 13 = .val (.int .i64 i) ∧ H = H' ∧ xs.take i = ys.take i) (xs.length) ?_ ?_
 refine ⟨0, ?_⟩
 simp [frame0]
 rintro k F H' ⟨i, rfl, hi, h0, h1, h12, h13, rfl, htake⟩
 refine T_sr fun K6 hK6 => ?_
 simp [↓put_at, ↓AF.ev_tmp, ↓ex_cons, ↓ex_nil, ↓ex_binOp, aBin, aBinV, frame0, h0, h1, h12, h13]
 refine hK6 _ _ ?_
 try clear hK6 K6
 refine T_seqk fun K7 hK7 => ?_
 refine T_cond (by first | rfl | exact h0 | exact h1 | exact h12 | exact h13) (fun c1 => ?_) (fun c1 => ?_)
 have hlt : i < xs.length := by simpa using c1
 refine T_skip ?_
 try simp only [tN, bN, lN]
 refine hK7 _ _ ?_
 try clear hK7 K7
 refine T_seqk fun K8 hK8 => ?_
 refine T_block ?_
 refine T_sr fun K9 hK9 => ?_
 simp [↓put_at, ↓AF.ev_tmp, ↓ex_cons, ↓ex_nil, ↓ex_move, ↓ex_assign, frame0, h0, h1, h12, h13]
 refine hK9 _ _ ?_
 try clear hK9 K9
 refine T_seqk fun K10 hK10 => ?_
 refine T_draw (fun _ => True) [] (.free 0 (.free 1 (.free 2 (.free 3 (.free 4 (.free 5 (.free 6 (.free 7 (.free 8 .done))))))))) mix ?_ ?_ ?_
 kernel_rfl
 kernel_rfl
 have hlt' : i < ys.length := by omega
 simp [↓put_at, ↓AF.ev_tmp, ↓wk_free, ↓wk_sole, ↓wk_done, ↓wanted_none, Keeps, Same, ↓wk_move, ↓wk_indexAddr, ↓wk_load, ↓wk_binOp, aIndexAddr, aload, frame0, h0, h1, h12, h13, aIndexAddr, sl_get (map_get (f := brow) hlt), sl_get (map_get (f := brow) hlt'), aload, part_byte, bin_neq8]
 refine hK10 _ _ ?_
 try clear hK10 K10
 refine T_cond (by first | rfl | exact h0 | exact h1 | exact h12 | exact h13) (fun c2 => ?_) (fun c2 => ?_)
 refine T_sr fun K11 hK11 => ?_
 simp [↓put_at, ↓AF.ev_tmp, ↓ex_cons, ↓ex_nil, ↓ex_assign, ↓AF.ev_bool, frame0, h0, h1, h12, h13]
 refine hK11 _ _ ?_
 try clear hK11 K11
 refine T_ret ?_
 try simp only [thenK_ret, blockT_ret, loopT_ret, jumpT_ret]
 refine owes_pure (.inr rfl) hwf rfl ?_ ?_ ?_
 simp [frzVs, frzV, frz]; exact .refl _
 simp [frzVs, frzV, frz]
 simp [frzVs, frzV, frz, packed]
 intro e; subst e; simp at c2
 have heq : xs[i] = ys[i] := by simpa using c2
 refine T_skip ?_
 try simp only [tN, bN, lN]
 refine hK8 _ _ ?_
 try clear hK8 K8
 refine T_rg ?_
 simp [↓put_at, ↓AF.ev_tmp, ↓ex_cons, ↓ex_nil, ↓ex_binOp, ↓AF.ev_int, ↓ex_move, aBin, aBinV, frame0, h0, h1, h12, h13]
 refine ⟨xs.length - (i + 1), by omega, i + 1, rfl, by omega, ?_⟩
 simp [h0, h1, h12, h13]
 rw [wrap_i64 (by omega) (by omega)]
 refine ⟨rfl, ?_⟩
 rw [List.take_succ_eq_append_getElem hlt, List.take_succ_eq_append_getElem hlt', htake, heq]
 have hge : xs.length ≤ i := by simpa using c1
 refine T_exit ?_
 try simp only [tE, bE, lE, if_true, Nat.reduceEqDiff, if_false, reduceIte, tN, bN, lN]
 refine hK4 _ _ ?_
 try clear hK4 K4
 refine T_sr fun K12 hK12 => ?_
 simp [↓put_at, ↓AF.ev_tmp, ↓ex_cons, ↓ex_nil, ↓ex_assign, ↓AF.ev_bool, frame0, h0, h1, h12, h13]
 refine hK12 _ _ ?_
 try clear hK12 K12
 refine T_ret ?_
 try simp only [thenK_ret, blockT_ret, loopT_ret, jumpT_ret]
 refine owes_pure (.inr rfl) hwf rfl ?_ ?_ ?_
 simp [frzVs, frzV, frz]; exact .refl _
 simp [frzVs, frzV, frz]
 simp [frzVs, frzV, frz, packed]
 rw [List.take_of_length_le hge, List.take_of_length_le (by omega)] at htake
 exact htake
set_option maxRecDepth 100000 in
theorem sameFlat (H : AS) (c d : Nat) (x y : DFlat) (hb1 : x.ops.length < 2 ^ 62) (hb2 : x.loops.length < 2 ^ 62) : ACalls Tryz.prog 63 [.agg (x.row c), .agg (y.row d)] H fun r H' => r = .val (.bool (decide (x = y))) ∧ H' = H := by
 refine ACalls_intro Tryz.func63 rfl (by kernel_rfl) (by simp) fun hwf hbel => ?_
 refine T_sr fun K0 hK0 => ?_
 simp [↓put_at, ↓AF.ev_tmp, ↓ex_cons, ↓ex_nil, ↓ex_box, ↓ex_assign, ↓AF.ev_bool, abox, frame0]
 refine hK0 _ _ ?_
 try clear hK0 K0
 refine T_seqk fun K1 hK1 => ?_
 refine T_sr fun K2 hK2 => ?_
 suffices key : ∀ (F2 : AF) (H2 : AS), F2 2 = .ptr H.next 1 0 0 → F2 3 = .ptr (H.next + 1) 1 0 0 → F2 44 = pb (!decide (x.name = y.name ∧ x.what = y.what ∧ x.cells = y.cells ∧ x.base = y.base ∧ x.regs = y.regs ∧ x.slots = y.slots)) → H2.box H.next = some [x.row c] → H2.box (H.next + 1) = some [y.row d] → H.Ext H2 → K2 F2 H2 by
   by_cases h0 : x.name = y.name
   · by_cases h1 : x.what = y.what
     · by_cases h2 : x.cells = y.cells
       · by_cases h3 : x.base = y.base
         · by_cases h4 : x.regs = y.regs
           · by_cases h5 : x.slots = y.slots
             · simp [↓put_at, ↓AF.ev_tmp, ↓ex_cons, ↓ex_nil, ↓ex_fieldAddr, ↓ex_load, ↓ex_binOp, ↓ex_move, ↓ex_guard, ↓ex_pick, ↓AF.ev_bool, aFieldAddr, aload, partOf, aBin, aBinV, frame0, beq_bytes, int_bne, int_beq, DFlat.row, h0, h1, h2, h3, h4, h5]
               refine key _ _ ?_ ?_ ?_ ?_ ?_ ?_
               · simp
               · simp
               · simp [h0, h1, h2, h3, h4, h5]
               · simp [DFlat.row, h0, h1, h2, h3, h4, h5]
               · simp [DFlat.row]
               · exact (by repeat (first | exact AS.Ext.refl _ | refine AS.Ext.kill (by simp) ?_ | refine AS.Ext.bump ?_ | refine AS.Ext.setBox (by simp) ?_))
             · simp [↓put_at, ↓AF.ev_tmp, ↓ex_cons, ↓ex_nil, ↓ex_fieldAddr, ↓ex_load, ↓ex_binOp, ↓ex_move, ↓ex_guard, ↓ex_pick, ↓AF.ev_bool, aFieldAddr, aload, partOf, aBin, aBinV, frame0, beq_bytes, int_bne, int_beq, DFlat.row, h0, h1, h2, h3, h4, h5]
               refine key _ _ ?_ ?_ ?_ ?_ ?_ ?_
               · simp
               · simp
               · simp [h0, h1, h2, h3, h4, h5]
               · simp [DFlat.row, h0, h1, h2, h3, h4, h5]
               · simp [DFlat.row]
               · exact (by repeat (first | exact AS.Ext.refl _ | refine AS.Ext.kill (by simp) ?_ | refine AS.Ext.bump ?_ | refine AS.Ext.setBox (by simp) ?_))
           · simp [↓put_at, ↓AF.ev_tmp, ↓ex_cons, ↓ex_nil, ↓ex_fieldAddr, ↓ex_load, ↓ex_binOp, ↓ex_move, ↓ex_guard, ↓ex_pick, ↓AF.ev_bool, aFieldAddr, aload, partOf, aBin, aBinV, frame0, beq_bytes, int_bne, int_beq, DFlat.row, h0, h1, h2, h3, h4]
             refine key _ _ ?_ ?_ ?_ ?_ ?_ ?_
             · simp
             · simp
             · simp [h0, h1, h2, h3, h4]
             · simp [DFlat.row, h0, h1, h2, h3, h4]
             · simp [DFlat.row]
             · exact (by repeat (first | exact AS.Ext.refl _ | refine AS.Ext.kill (by simp) ?_ | refine AS.Ext.bump ?_ | refine AS.Ext.setBox (by simp) ?_))
         · simp [↓put_at, ↓AF.ev_tmp, ↓ex_cons, ↓ex_nil, ↓ex_fieldAddr, ↓ex_load, ↓ex_binOp, ↓ex_move, ↓ex_guard, ↓ex_pick, ↓AF.ev_bool, aFieldAddr, aload, partOf, aBin, aBinV, frame0, beq_bytes, int_bne, int_beq, DFlat.row, h0, h1, h2, h3]
           refine key _ _ ?_ ?_ ?_ ?_ ?_ ?_
           · simp
           · simp
           · simp [h0, h1, h2, h3]
           · simp [DFlat.row, h0, h1, h2, h3]
           · simp [DFlat.row]
           · exact (by repeat (first | exact AS.Ext.refl _ | refine AS.Ext.kill (by simp) ?_ | refine AS.Ext.bump ?_ | refine AS.Ext.setBox (by simp) ?_))
       · simp [↓put_at, ↓AF.ev_tmp, ↓ex_cons, ↓ex_nil, ↓ex_fieldAddr, ↓ex_load, ↓ex_binOp, ↓ex_move, ↓ex_guard, ↓ex_pick, ↓AF.ev_bool, aFieldAddr, aload, partOf, aBin, aBinV, frame0, beq_bytes, int_bne, int_beq, DFlat.row, h0, h1, h2]
         refine key _ _ ?_ ?_ ?_ ?_ ?_ ?_
         · simp
         · simp
         · simp [h0, h1, h2]
         · simp [DFlat.row, h0, h1, h2]
         · simp [DFlat.row]
         · exact (by repeat (first | exact AS.Ext.refl _ | refine AS.Ext.kill (by simp) ?_ | refine AS.Ext.bump ?_ | refine AS.Ext.setBox (by simp) ?_))
     · simp [↓put_at, ↓AF.ev_tmp, ↓ex_cons, ↓ex_nil, ↓ex_fieldAddr, ↓ex_load, ↓ex_binOp, ↓ex_move, ↓ex_guard, ↓ex_pick, ↓AF.ev_bool, aFieldAddr, aload, partOf, aBin, aBinV, frame0, beq_bytes, int_bne, int_beq, DFlat.row, h0, h1]
       refine key _ _ ?_ ?_ ?_ ?_ ?_ ?_
       · simp
       · simp
       · simp [h0, h1]
       · simp [DFlat.row, h0, h1]
       · simp [DFlat.row]
       · exact (by repeat (first | exact AS.Ext.refl _ | refine AS.Ext.kill (by simp) ?_ | refine AS.Ext.bump ?_ | refine AS.Ext.setBox (by simp) ?_))
   · simp [↓put_at, ↓AF.ev_tmp, ↓ex_cons, ↓ex_nil, ↓ex_fieldAddr, ↓ex_load, ↓ex_binOp, ↓ex_move, ↓ex_guard, ↓ex_pick, ↓AF.ev_bool, aFieldAddr, aload, partOf, aBin, aBinV, frame0, beq_bytes, int_bne, int_beq, DFlat.row, h0]
     refine key _ _ ?_ ?_ ?_ ?_ ?_ ?_
     · simp
     · simp
     · simp [h0]
     · simp [DFlat.row, h0]
     · simp [DFlat.row]
     · exact (by repeat (first | exact AS.Ext.refl _ | refine AS.Ext.kill (by simp) ?_ | refine AS.Ext.bump ?_ | refine AS.Ext.setBox (by simp) ?_))
 intro F2 H2 f2 f3 fl b1 b2 hext
 refine hK2 _ _ ?_
 try clear hK2 K2
 refine T_cond (t := !decide (x.name = y.name ∧ x.what = y.what ∧ x.cells = y.cells ∧ x.base = y.base ∧ x.regs = y.regs ∧ x.slots = y.slots)) ?_ (fun c0 => ?_) (fun c0 => ?_)
 simpa using fl
 refine T_sr fun K3 hK3 => ?_
 simp [↓put_at, ↓AF.ev_tmp, ↓ex_cons, ↓ex_nil, ↓ex_assign, ↓AF.ev_bool, frame0]
 refine hK3 _ _ ?_
 try clear hK3 K3
 refine T_ret ?_
 try simp only [thenK_ret, blockT_ret, loopT_ret, jumpT_ret]
 have c0 : ¬ (x.name = y.name ∧ x.what = y.what ∧ x.cells = y.cells ∧ x.base = y.base ∧ x.regs = y.regs ∧ x.slots = y.slots) := fun hp => by rw [decide_eq_true hp] at c0; simp at c0
 refine owes_one (.inr rfl) hwf rfl ?_ hext (by simp [Frozen]) (by simp [Below])
 simp [DFlat.ext_iff]
 intros; simp_all
 refine T_skip ?_
 try simp only [tN, bN, lN]
 refine hK1 _ _ ?_
 try clear hK1 K1
 refine T_sr fun K4 hK4 => ?_
 suffices key : ∀ (F3 : AF), F3 4 = pb (decide (x.ops = y.ops ∧ x.loops = y.loops)) → K4 F3 H2 by
   by_cases h0 : x.ops = y.ops
   · by_cases h1 : x.loops = y.loops
     · simp [↓put_at, ↓AF.ev_tmp, ↓ex_cons, ↓ex_nil, ↓ex_fieldAddr, ↓ex_load, ↓ex_call, ↓AF.ev_func, ↓ex_move, ↓ex_guard, ↓ex_pick, ↓AF.ev_bool, ↓ex_assign, aFieldAddr, aload, partOf, frame0, beq_bytes, int_bne, int_beq, DFlat.row, f2, f3, fl, b1, b2]
       refine callK.of (eqOps _ c d x.ops y.ops hb1) ?_
       rintro _ _ ⟨rfl, rfl⟩
       simp [↓put_at, ↓AF.ev_tmp, ↓ex_cons, ↓ex_nil, ↓ex_fieldAddr, ↓ex_load, ↓ex_call, ↓AF.ev_func, ↓ex_move, ↓ex_guard, ↓ex_pick, ↓AF.ev_bool, ↓ex_assign, aFieldAddr, aload, partOf, frame0, beq_bytes, int_bne, int_beq, DFlat.row, f2, f3, fl, b1, b2, h0]
       refine callK.of (eqLoops _ c d x.loops y.loops hb2) ?_
       rintro _ _ ⟨rfl, rfl⟩
       simp [↓put_at, ↓AF.ev_tmp, ↓ex_cons, ↓ex_nil, ↓ex_fieldAddr, ↓ex_load, ↓ex_call, ↓AF.ev_func, ↓ex_move, ↓ex_guard, ↓ex_pick, ↓AF.ev_bool, ↓ex_assign, aFieldAddr, aload, partOf, frame0, beq_bytes, int_bne, int_beq, DFlat.row, f2, f3, fl, b1, b2, h0, h1]
       exact key _ (by simp [h0, h1])
     · simp [↓put_at, ↓AF.ev_tmp, ↓ex_cons, ↓ex_nil, ↓ex_fieldAddr, ↓ex_load, ↓ex_call, ↓AF.ev_func, ↓ex_move, ↓ex_guard, ↓ex_pick, ↓AF.ev_bool, ↓ex_assign, aFieldAddr, aload, partOf, frame0, beq_bytes, int_bne, int_beq, DFlat.row, f2, f3, fl, b1, b2]
       refine callK.of (eqOps _ c d x.ops y.ops hb1) ?_
       rintro _ _ ⟨rfl, rfl⟩
       simp [↓put_at, ↓AF.ev_tmp, ↓ex_cons, ↓ex_nil, ↓ex_fieldAddr, ↓ex_load, ↓ex_call, ↓AF.ev_func, ↓ex_move, ↓ex_guard, ↓ex_pick, ↓AF.ev_bool, ↓ex_assign, aFieldAddr, aload, partOf, frame0, beq_bytes, int_bne, int_beq, DFlat.row, f2, f3, fl, b1, b2, h0]
       refine callK.of (eqLoops _ c d x.loops y.loops hb2) ?_
       rintro _ _ ⟨rfl, rfl⟩
       simp [↓put_at, ↓AF.ev_tmp, ↓ex_cons, ↓ex_nil, ↓ex_fieldAddr, ↓ex_load, ↓ex_call, ↓AF.ev_func, ↓ex_move, ↓ex_guard, ↓ex_pick, ↓AF.ev_bool, ↓ex_assign, aFieldAddr, aload, partOf, frame0, beq_bytes, int_bne, int_beq, DFlat.row, f2, f3, fl, b1, b2, h0, h1]
       exact key _ (by simp [h0, h1])
   · simp [↓put_at, ↓AF.ev_tmp, ↓ex_cons, ↓ex_nil, ↓ex_fieldAddr, ↓ex_load, ↓ex_call, ↓AF.ev_func, ↓ex_move, ↓ex_guard, ↓ex_pick, ↓AF.ev_bool, ↓ex_assign, aFieldAddr, aload, partOf, frame0, beq_bytes, int_bne, int_beq, DFlat.row, f2, f3, fl, b1, b2]
     refine callK.of (eqOps _ c d x.ops y.ops hb1) ?_
     rintro _ _ ⟨rfl, rfl⟩
     simp [↓put_at, ↓AF.ev_tmp, ↓ex_cons, ↓ex_nil, ↓ex_fieldAddr, ↓ex_load, ↓ex_call, ↓AF.ev_func, ↓ex_move, ↓ex_guard, ↓ex_pick, ↓AF.ev_bool, ↓ex_assign, aFieldAddr, aload, partOf, frame0, beq_bytes, int_bne, int_beq, DFlat.row, f2, f3, fl, b1, b2, h0]
     exact key _ (by simp [h0])
 intro F3 f4
 refine hK4 _ _ ?_
 try clear hK4 K4
 refine T_ret ?_
 try simp only [thenK_ret, blockT_ret, loopT_ret, jumpT_ret]
 refine owes_one (.inr rfl) hwf rfl ?_ hext ?_ ?_
 rw [f4]
 have c0 : x.name = y.name ∧ x.what = y.what ∧ x.cells = y.cells ∧ x.base = y.base ∧ x.regs = y.regs ∧ x.slots = y.slots := Decidable.byContradiction fun hp => by rw [decide_eq_false hp] at c0; simp at c0
 simp [DFlat.ext_iff]
 simp_all
 rw [f4]; simp
 rw [f4]; simp
set_option maxRecDepth 100000 in
theorem sameCode (H : AS) (c d : Nat) (x y : DFlat) (hb1 : x.ops.length < 2 ^ 62) (hb2 : x.loops.length < 2 ^ 62) : ACalls Tryz.prog 42 [.agg (x.row c), .agg (y.row d)] H fun r H' => r = .val (.bool (decide (x = y))) ∧ H' = H := by
 refine ACalls_intro Tryz.func42 rfl (by kernel_rfl) (by simp) fun hwf hbel => ?_
 refine T_sr fun K0 hK0 => ?_
 simp [↓put_at, ↓AF.ev_tmp, ↓ex_cons, ↓ex_nil, ↓ex_box, ↓ex_assign, ↓AF.ev_bool, abox, frame0]
 refine hK0 _ _ ?_
 try clear hK0 K0
 refine T_seqk fun K1 hK1 => ?_
 refine T_sr fun K2 hK2 => ?_
 suffices key : ∀ (F2 : AF) (H2 : AS), F2 2 = .ptr H.next 1 0 0 → F2 3 = .ptr (H.next + 1) 1 0 0 → F2 44 = pb (!decide (x.name = y.name ∧ x.what = y.what ∧ x.cells = y.cells ∧ x.base = y.base ∧ x.regs = y.regs ∧ x.slots = y.slots)) → H2.box H.next = some [x.row c] → H2.box (H.next + 1) = some [y.row d] → H.Ext H2 → K2 F2 H2 by
   by_cases h0 : x.name = y.name
   · by_cases h1 : x.what = y.what
     · by_cases h2 : x.cells = y.cells
       · by_cases h3 : x.base = y.base
         · by_cases h4 : x.regs = y.regs
           · by_cases h5 : x.slots = y.slots
             · simp [↓put_at, ↓AF.ev_tmp, ↓ex_cons, ↓ex_nil, ↓ex_fieldAddr, ↓ex_load, ↓ex_binOp, ↓ex_move, ↓ex_guard, ↓ex_pick, ↓AF.ev_bool, aFieldAddr, aload, partOf, aBin, aBinV, frame0, beq_bytes, int_bne, int_beq, DFlat.row, h0, h1, h2, h3, h4, h5]
               refine key _ _ ?_ ?_ ?_ ?_ ?_ ?_
               · simp
               · simp
               · simp [h0, h1, h2, h3, h4, h5]
               · simp [DFlat.row, h0, h1, h2, h3, h4, h5]
               · simp [DFlat.row]
               · exact (by repeat (first | exact AS.Ext.refl _ | refine AS.Ext.kill (by simp) ?_ | refine AS.Ext.bump ?_ | refine AS.Ext.setBox (by simp) ?_))
             · simp [↓put_at, ↓AF.ev_tmp, ↓ex_cons, ↓ex_nil, ↓ex_fieldAddr, ↓ex_load, ↓ex_binOp, ↓ex_move, ↓ex_guard, ↓ex_pick, ↓AF.ev_bool, aFieldAddr, aload, partOf, aBin, aBinV, frame0, beq_bytes, int_bne, int_beq, DFlat.row, h0, h1, h2, h3, h4, h5]
               refine key _ _ ?_ ?_ ?_ ?_ ?_ ?_
               · simp
               · simp
               · simp [h0, h1, h2, h3, h4, h5]
               · simp [DFlat.row, h0, h1, h2, h3, h4, h5]
               · simp [DFlat.row]
               · exact (by repeat (first | exact AS.Ext.refl _ | refine AS.Ext.kill (by simp) ?_ | refine AS.Ext.bump ?_ | refine AS.Ext.setBox (by simp) ?_))
           · simp [↓put_at, ↓AF.ev_tmp, ↓ex_cons, ↓ex_nil, ↓ex_fieldAddr, ↓ex_load, ↓ex_binOp, ↓ex_move, ↓ex_guard, ↓ex_pick, ↓AF.ev_bool, aFieldAddr, aload, partOf, aBin, aBinV, frame0, beq_bytes, int_bne, int_beq, DFlat.row, h0, h1, h2, h3, h4]
             refine key _ _ ?_ ?_ ?_ ?_ ?_ ?_
             · simp
             · simp
             · simp [h0, h1, h2, h3, h4]
             · simp [DFlat.row, h0, h1, h2, h3, h4]
             · simp [DFlat.row]
             · exact (by repeat (first | exact AS.Ext.refl _ | refine AS.Ext.kill (by simp) ?_ | refine AS.Ext.bump ?_ | refine AS.Ext.setBox (by simp) ?_))
         · simp [↓put_at, ↓AF.ev_tmp, ↓ex_cons, ↓ex_nil, ↓ex_fieldAddr, ↓ex_load, ↓ex_binOp, ↓ex_move, ↓ex_guard, ↓ex_pick, ↓AF.ev_bool, aFieldAddr, aload, partOf, aBin, aBinV, frame0, beq_bytes, int_bne, int_beq, DFlat.row, h0, h1, h2, h3]
           refine key _ _ ?_ ?_ ?_ ?_ ?_ ?_
           · simp
           · simp
           · simp [h0, h1, h2, h3]
           · simp [DFlat.row, h0, h1, h2, h3]
           · simp [DFlat.row]
           · exact (by repeat (first | exact AS.Ext.refl _ | refine AS.Ext.kill (by simp) ?_ | refine AS.Ext.bump ?_ | refine AS.Ext.setBox (by simp) ?_))
       · simp [↓put_at, ↓AF.ev_tmp, ↓ex_cons, ↓ex_nil, ↓ex_fieldAddr, ↓ex_load, ↓ex_binOp, ↓ex_move, ↓ex_guard, ↓ex_pick, ↓AF.ev_bool, aFieldAddr, aload, partOf, aBin, aBinV, frame0, beq_bytes, int_bne, int_beq, DFlat.row, h0, h1, h2]
         refine key _ _ ?_ ?_ ?_ ?_ ?_ ?_
         · simp
         · simp
         · simp [h0, h1, h2]
         · simp [DFlat.row, h0, h1, h2]
         · simp [DFlat.row]
         · exact (by repeat (first | exact AS.Ext.refl _ | refine AS.Ext.kill (by simp) ?_ | refine AS.Ext.bump ?_ | refine AS.Ext.setBox (by simp) ?_))
     · simp [↓put_at, ↓AF.ev_tmp, ↓ex_cons, ↓ex_nil, ↓ex_fieldAddr, ↓ex_load, ↓ex_binOp, ↓ex_move, ↓ex_guard, ↓ex_pick, ↓AF.ev_bool, aFieldAddr, aload, partOf, aBin, aBinV, frame0, beq_bytes, int_bne, int_beq, DFlat.row, h0, h1]
       refine key _ _ ?_ ?_ ?_ ?_ ?_ ?_
       · simp
       · simp
       · simp [h0, h1]
       · simp [DFlat.row, h0, h1]
       · simp [DFlat.row]
       · exact (by repeat (first | exact AS.Ext.refl _ | refine AS.Ext.kill (by simp) ?_ | refine AS.Ext.bump ?_ | refine AS.Ext.setBox (by simp) ?_))
   · simp [↓put_at, ↓AF.ev_tmp, ↓ex_cons, ↓ex_nil, ↓ex_fieldAddr, ↓ex_load, ↓ex_binOp, ↓ex_move, ↓ex_guard, ↓ex_pick, ↓AF.ev_bool, aFieldAddr, aload, partOf, aBin, aBinV, frame0, beq_bytes, int_bne, int_beq, DFlat.row, h0]
     refine key _ _ ?_ ?_ ?_ ?_ ?_ ?_
     · simp
     · simp
     · simp [h0]
     · simp [DFlat.row, h0]
     · simp [DFlat.row]
     · exact (by repeat (first | exact AS.Ext.refl _ | refine AS.Ext.kill (by simp) ?_ | refine AS.Ext.bump ?_ | refine AS.Ext.setBox (by simp) ?_))
 intro F2 H2 f2 f3 fl b1 b2 hext
 refine hK2 _ _ ?_
 try clear hK2 K2
 refine T_cond (t := !decide (x.name = y.name ∧ x.what = y.what ∧ x.cells = y.cells ∧ x.base = y.base ∧ x.regs = y.regs ∧ x.slots = y.slots)) ?_ (fun c0 => ?_) (fun c0 => ?_)
 simpa using fl
 refine T_sr fun K3 hK3 => ?_
 simp [↓put_at, ↓AF.ev_tmp, ↓ex_cons, ↓ex_nil, ↓ex_assign, ↓AF.ev_bool, frame0]
 refine hK3 _ _ ?_
 try clear hK3 K3
 refine T_ret ?_
 try simp only [thenK_ret, blockT_ret, loopT_ret, jumpT_ret]
 have c0 : ¬ (x.name = y.name ∧ x.what = y.what ∧ x.cells = y.cells ∧ x.base = y.base ∧ x.regs = y.regs ∧ x.slots = y.slots) := fun hp => by rw [decide_eq_true hp] at c0; simp at c0
 refine owes_one (.inr rfl) hwf rfl ?_ hext (by simp [Frozen]) (by simp [Below])
 simp [DFlat.ext_iff]
 intros; simp_all
 refine T_skip ?_
 try simp only [tN, bN, lN]
 refine hK1 _ _ ?_
 try clear hK1 K1
 refine T_sr fun K4 hK4 => ?_
 suffices key : ∀ (F3 : AF), F3 4 = pb (decide (x.ops = y.ops ∧ x.loops = y.loops)) → K4 F3 H2 by
   by_cases h0 : x.ops = y.ops
   · by_cases h1 : x.loops = y.loops
     · simp [↓put_at, ↓AF.ev_tmp, ↓ex_cons, ↓ex_nil, ↓ex_fieldAddr, ↓ex_load, ↓ex_call, ↓AF.ev_func, ↓ex_move, ↓ex_guard, ↓ex_pick, ↓AF.ev_bool, ↓ex_assign, aFieldAddr, aload, partOf, frame0, beq_bytes, int_bne, int_beq, DFlat.row, f2, f3, fl, b1, b2]
       refine callK.of (eqOps _ c d x.ops y.ops hb1) ?_
       rintro _ _ ⟨rfl, rfl⟩
       simp [↓put_at, ↓AF.ev_tmp, ↓ex_cons, ↓ex_nil, ↓ex_fieldAddr, ↓ex_load, ↓ex_call, ↓AF.ev_func, ↓ex_move, ↓ex_guard, ↓ex_pick, ↓AF.ev_bool, ↓ex_assign, aFieldAddr, aload, partOf, frame0, beq_bytes, int_bne, int_beq, DFlat.row, f2, f3, fl, b1, b2, h0]
       refine callK.of (eqLoops _ c d x.loops y.loops hb2) ?_
       rintro _ _ ⟨rfl, rfl⟩
       simp [↓put_at, ↓AF.ev_tmp, ↓ex_cons, ↓ex_nil, ↓ex_fieldAddr, ↓ex_load, ↓ex_call, ↓AF.ev_func, ↓ex_move, ↓ex_guard, ↓ex_pick, ↓AF.ev_bool, ↓ex_assign, aFieldAddr, aload, partOf, frame0, beq_bytes, int_bne, int_beq, DFlat.row, f2, f3, fl, b1, b2, h0, h1]
       exact key _ (by simp [h0, h1])
     · simp [↓put_at, ↓AF.ev_tmp, ↓ex_cons, ↓ex_nil, ↓ex_fieldAddr, ↓ex_load, ↓ex_call, ↓AF.ev_func, ↓ex_move, ↓ex_guard, ↓ex_pick, ↓AF.ev_bool, ↓ex_assign, aFieldAddr, aload, partOf, frame0, beq_bytes, int_bne, int_beq, DFlat.row, f2, f3, fl, b1, b2]
       refine callK.of (eqOps _ c d x.ops y.ops hb1) ?_
       rintro _ _ ⟨rfl, rfl⟩
       simp [↓put_at, ↓AF.ev_tmp, ↓ex_cons, ↓ex_nil, ↓ex_fieldAddr, ↓ex_load, ↓ex_call, ↓AF.ev_func, ↓ex_move, ↓ex_guard, ↓ex_pick, ↓AF.ev_bool, ↓ex_assign, aFieldAddr, aload, partOf, frame0, beq_bytes, int_bne, int_beq, DFlat.row, f2, f3, fl, b1, b2, h0]
       refine callK.of (eqLoops _ c d x.loops y.loops hb2) ?_
       rintro _ _ ⟨rfl, rfl⟩
       simp [↓put_at, ↓AF.ev_tmp, ↓ex_cons, ↓ex_nil, ↓ex_fieldAddr, ↓ex_load, ↓ex_call, ↓AF.ev_func, ↓ex_move, ↓ex_guard, ↓ex_pick, ↓AF.ev_bool, ↓ex_assign, aFieldAddr, aload, partOf, frame0, beq_bytes, int_bne, int_beq, DFlat.row, f2, f3, fl, b1, b2, h0, h1]
       exact key _ (by simp [h0, h1])
   · simp [↓put_at, ↓AF.ev_tmp, ↓ex_cons, ↓ex_nil, ↓ex_fieldAddr, ↓ex_load, ↓ex_call, ↓AF.ev_func, ↓ex_move, ↓ex_guard, ↓ex_pick, ↓AF.ev_bool, ↓ex_assign, aFieldAddr, aload, partOf, frame0, beq_bytes, int_bne, int_beq, DFlat.row, f2, f3, fl, b1, b2]
     refine callK.of (eqOps _ c d x.ops y.ops hb1) ?_
     rintro _ _ ⟨rfl, rfl⟩
     simp [↓put_at, ↓AF.ev_tmp, ↓ex_cons, ↓ex_nil, ↓ex_fieldAddr, ↓ex_load, ↓ex_call, ↓AF.ev_func, ↓ex_move, ↓ex_guard, ↓ex_pick, ↓AF.ev_bool, ↓ex_assign, aFieldAddr, aload, partOf, frame0, beq_bytes, int_bne, int_beq, DFlat.row, f2, f3, fl, b1, b2, h0]
     exact key _ (by simp [h0])
 intro F3 f4
 refine hK4 _ _ ?_
 try clear hK4 K4
 refine T_ret ?_
 try simp only [thenK_ret, blockT_ret, loopT_ret, jumpT_ret]
 refine owes_one (.inr rfl) hwf rfl ?_ hext ?_ ?_
 rw [f4]
 have c0 : x.name = y.name ∧ x.what = y.what ∧ x.cells = y.cells ∧ x.base = y.base ∧ x.regs = y.regs ∧ x.slots = y.slots := Decidable.byContradiction fun hp => by rw [decide_eq_false hp] at c0; simp at c0
 simp [DFlat.ext_iff]
 simp_all
 rw [f4]; simp
 rw [f4]; simp
set_option maxRecDepth 100000 in
theorem sameJob (H : AS) (c d : Nat) (x y : DJob) (hb1 : x.codes.length < 2 ^ 62) (hb2 : x.bases.length < 2 ^ 62) : ACalls Tryz.prog 44 [.agg (x.row c), .agg (y.row d)] H fun r H' => r = .val (.bool (decide (x = y))) ∧ H' = H := by
 refine ACalls_intro Tryz.func44 rfl (by kernel_rfl) (by simp) fun hwf hbel => ?_
 refine T_sr fun K0 hK0 => ?_
 simp [↓put_at, ↓AF.ev_tmp, ↓ex_cons, ↓ex_nil, ↓ex_box, ↓ex_assign, ↓AF.ev_bool, abox, frame0]
 refine hK0 _ _ ?_
 try clear hK0 K0
 refine T_seqk fun K1 hK1 => ?_
 refine T_sr fun K2 hK2 => ?_
 suffices key : ∀ (F2 : AF) (H2 : AS), F2 2 = .ptr H.next 1 0 0 → F2 3 = .ptr (H.next + 1) 1 0 0 → F2 37 = pb (!decide (x.name = y.name ∧ x.interval = y.interval ∧ x.single = y.single ∧ x.priority = y.priority ∧ x.bound = y.bound)) → H2.box H.next = some [x.row c] → H2.box (H.next + 1) = some [y.row d] → H.Ext H2 → K2 F2 H2 by
   by_cases h0 : x.name = y.name
   · by_cases h1 : x.interval = y.interval
     · by_cases h2 : x.single = y.single
       · by_cases h3 : x.priority = y.priority
         · by_cases h4 : x.bound = y.bound
           · simp [↓put_at, ↓AF.ev_tmp, ↓ex_cons, ↓ex_nil, ↓ex_fieldAddr, ↓ex_load, ↓ex_binOp, ↓ex_move, ↓ex_guard, ↓ex_pick, ↓AF.ev_bool, aFieldAddr, aload, partOf, aBin, aBinV, frame0, beq_bytes, int_bne, int_beq, DJob.row, h0, h1, h2, h3, h4]
             refine key _ _ ?_ ?_ ?_ ?_ ?_ ?_
             · simp
             · simp
             · simp [h0, h1, h2, h3, h4]
             · simp [DJob.row, h0, h1, h2, h3, h4]
             · simp [DJob.row]
             · exact (by repeat (first | exact AS.Ext.refl _ | refine AS.Ext.kill (by simp) ?_ | refine AS.Ext.bump ?_ | refine AS.Ext.setBox (by simp) ?_))
           · simp [↓put_at, ↓AF.ev_tmp, ↓ex_cons, ↓ex_nil, ↓ex_fieldAddr, ↓ex_load, ↓ex_binOp, ↓ex_move, ↓ex_guard, ↓ex_pick, ↓AF.ev_bool, aFieldAddr, aload, partOf, aBin, aBinV, frame0, beq_bytes, int_bne, int_beq, DJob.row, h0, h1, h2, h3, h4]
             refine key _ _ ?_ ?_ ?_ ?_ ?_ ?_
             · simp
             · simp
             · simp [h0, h1, h2, h3, h4]
             · simp [DJob.row, h0, h1, h2, h3, h4]
             · simp [DJob.row]
             · exact (by repeat (first | exact AS.Ext.refl _ | refine AS.Ext.kill (by simp) ?_ | refine AS.Ext.bump ?_ | refine AS.Ext.setBox (by simp) ?_))
         · simp [↓put_at, ↓AF.ev_tmp, ↓ex_cons, ↓ex_nil, ↓ex_fieldAddr, ↓ex_load, ↓ex_binOp, ↓ex_move, ↓ex_guard, ↓ex_pick, ↓AF.ev_bool, aFieldAddr, aload, partOf, aBin, aBinV, frame0, beq_bytes, int_bne, int_beq, DJob.row, h0, h1, h2, h3]
           refine key _ _ ?_ ?_ ?_ ?_ ?_ ?_
           · simp
           · simp
           · simp [h0, h1, h2, h3]
           · simp [DJob.row, h0, h1, h2, h3]
           · simp [DJob.row]
           · exact (by repeat (first | exact AS.Ext.refl _ | refine AS.Ext.kill (by simp) ?_ | refine AS.Ext.bump ?_ | refine AS.Ext.setBox (by simp) ?_))
       · simp [↓put_at, ↓AF.ev_tmp, ↓ex_cons, ↓ex_nil, ↓ex_fieldAddr, ↓ex_load, ↓ex_binOp, ↓ex_move, ↓ex_guard, ↓ex_pick, ↓AF.ev_bool, aFieldAddr, aload, partOf, aBin, aBinV, frame0, beq_bytes, int_bne, int_beq, DJob.row, h0, h1, h2]
         refine key _ _ ?_ ?_ ?_ ?_ ?_ ?_
         · simp
         · simp
         · simp [h0, h1, h2]
         · simp [DJob.row, h0, h1, h2]
         · simp [DJob.row]
         · exact (by repeat (first | exact AS.Ext.refl _ | refine AS.Ext.kill (by simp) ?_ | refine AS.Ext.bump ?_ | refine AS.Ext.setBox (by simp) ?_))
     · simp [↓put_at, ↓AF.ev_tmp, ↓ex_cons, ↓ex_nil, ↓ex_fieldAddr, ↓ex_load, ↓ex_binOp, ↓ex_move, ↓ex_guard, ↓ex_pick, ↓AF.ev_bool, aFieldAddr, aload, partOf, aBin, aBinV, frame0, beq_bytes, int_bne, int_beq, DJob.row, h0, h1]
       refine key _ _ ?_ ?_ ?_ ?_ ?_ ?_
       · simp
       · simp
       · simp [h0, h1]
       · simp [DJob.row, h0, h1]
       · simp [DJob.row]
       · exact (by repeat (first | exact AS.Ext.refl _ | refine AS.Ext.kill (by simp) ?_ | refine AS.Ext.bump ?_ | refine AS.Ext.setBox (by simp) ?_))
   · simp [↓put_at, ↓AF.ev_tmp, ↓ex_cons, ↓ex_nil, ↓ex_fieldAddr, ↓ex_load, ↓ex_binOp, ↓ex_move, ↓ex_guard, ↓ex_pick, ↓AF.ev_bool, aFieldAddr, aload, partOf, aBin, aBinV, frame0, beq_bytes, int_bne, int_beq, DJob.row, h0]
     refine key _ _ ?_ ?_ ?_ ?_ ?_ ?_
     · simp
     · simp
     · simp [h0]
     · simp [DJob.row, h0]
     · simp [DJob.row]
     · exact (by repeat (first | exact AS.Ext.refl _ | refine AS.Ext.kill (by simp) ?_ | refine AS.Ext.bump ?_ | refine AS.Ext.setBox (by simp) ?_))
 intro F2 H2 f2 f3 fl b1 b2 hext
 refine hK2 _ _ ?_
 try clear hK2 K2
 refine T_cond (t := !decide (x.name = y.name ∧ x.interval = y.interval ∧ x.single = y.single ∧ x.priority = y.priority ∧ x.bound = y.bound)) ?_ (fun c0 => ?_) (fun c0 => ?_)
 simpa using fl
 refine T_sr fun K3 hK3 => ?_
 simp [↓put_at, ↓AF.ev_tmp, ↓ex_cons, ↓ex_nil, ↓ex_assign, ↓AF.ev_bool, frame0]
 refine hK3 _ _ ?_
 try clear hK3 K3
 refine T_ret ?_
 try simp only [thenK_ret, blockT_ret, loopT_ret, jumpT_ret]
 have c0 : ¬ (x.name = y.name ∧ x.interval = y.interval ∧ x.single = y.single ∧ x.priority = y.priority ∧ x.bound = y.bound) := fun hp => by rw [decide_eq_true hp] at c0; simp at c0
 refine owes_one (.inr rfl) hwf rfl ?_ hext (by simp [Frozen]) (by simp [Below])
 simp [DJob.ext_iff]
 intros; simp_all
 refine T_skip ?_
 try simp only [tN, bN, lN]
 refine hK1 _ _ ?_
 try clear hK1 K1
 refine T_sr fun K4 hK4 => ?_
 suffices key : ∀ (F3 : AF), F3 4 = pb (decide (x.codes = y.codes ∧ x.bases = y.bases)) → K4 F3 H2 by
   by_cases h0 : x.codes = y.codes
   · by_cases h1 : x.bases = y.bases
     · simp [↓put_at, ↓AF.ev_tmp, ↓ex_cons, ↓ex_nil, ↓ex_fieldAddr, ↓ex_load, ↓ex_call, ↓AF.ev_func, ↓ex_move, ↓ex_guard, ↓ex_pick, ↓AF.ev_bool, ↓ex_assign, aFieldAddr, aload, partOf, frame0, beq_bytes, int_bne, int_beq, DJob.row, f2, f3, fl, b1, b2]
       refine callK.of (eqInts _ c d x.codes y.codes hb1) ?_
       rintro _ _ ⟨rfl, rfl⟩
       simp [↓put_at, ↓AF.ev_tmp, ↓ex_cons, ↓ex_nil, ↓ex_fieldAddr, ↓ex_load, ↓ex_call, ↓AF.ev_func, ↓ex_move, ↓ex_guard, ↓ex_pick, ↓AF.ev_bool, ↓ex_assign, aFieldAddr, aload, partOf, frame0, beq_bytes, int_bne, int_beq, DJob.row, f2, f3, fl, b1, b2, h0]
       refine callK.of (eqInts _ c d x.bases y.bases hb2) ?_
       rintro _ _ ⟨rfl, rfl⟩
       simp [↓put_at, ↓AF.ev_tmp, ↓ex_cons, ↓ex_nil, ↓ex_fieldAddr, ↓ex_load, ↓ex_call, ↓AF.ev_func, ↓ex_move, ↓ex_guard, ↓ex_pick, ↓AF.ev_bool, ↓ex_assign, aFieldAddr, aload, partOf, frame0, beq_bytes, int_bne, int_beq, DJob.row, f2, f3, fl, b1, b2, h0, h1]
       exact key _ (by simp [h0, h1])
     · simp [↓put_at, ↓AF.ev_tmp, ↓ex_cons, ↓ex_nil, ↓ex_fieldAddr, ↓ex_load, ↓ex_call, ↓AF.ev_func, ↓ex_move, ↓ex_guard, ↓ex_pick, ↓AF.ev_bool, ↓ex_assign, aFieldAddr, aload, partOf, frame0, beq_bytes, int_bne, int_beq, DJob.row, f2, f3, fl, b1, b2]
       refine callK.of (eqInts _ c d x.codes y.codes hb1) ?_
       rintro _ _ ⟨rfl, rfl⟩
       simp [↓put_at, ↓AF.ev_tmp, ↓ex_cons, ↓ex_nil, ↓ex_fieldAddr, ↓ex_load, ↓ex_call, ↓AF.ev_func, ↓ex_move, ↓ex_guard, ↓ex_pick, ↓AF.ev_bool, ↓ex_assign, aFieldAddr, aload, partOf, frame0, beq_bytes, int_bne, int_beq, DJob.row, f2, f3, fl, b1, b2, h0]
       refine callK.of (eqInts _ c d x.bases y.bases hb2) ?_
       rintro _ _ ⟨rfl, rfl⟩
       simp [↓put_at, ↓AF.ev_tmp, ↓ex_cons, ↓ex_nil, ↓ex_fieldAddr, ↓ex_load, ↓ex_call, ↓AF.ev_func, ↓ex_move, ↓ex_guard, ↓ex_pick, ↓AF.ev_bool, ↓ex_assign, aFieldAddr, aload, partOf, frame0, beq_bytes, int_bne, int_beq, DJob.row, f2, f3, fl, b1, b2, h0, h1]
       exact key _ (by simp [h0, h1])
   · simp [↓put_at, ↓AF.ev_tmp, ↓ex_cons, ↓ex_nil, ↓ex_fieldAddr, ↓ex_load, ↓ex_call, ↓AF.ev_func, ↓ex_move, ↓ex_guard, ↓ex_pick, ↓AF.ev_bool, ↓ex_assign, aFieldAddr, aload, partOf, frame0, beq_bytes, int_bne, int_beq, DJob.row, f2, f3, fl, b1, b2]
     refine callK.of (eqInts _ c d x.codes y.codes hb1) ?_
     rintro _ _ ⟨rfl, rfl⟩
     simp [↓put_at, ↓AF.ev_tmp, ↓ex_cons, ↓ex_nil, ↓ex_fieldAddr, ↓ex_load, ↓ex_call, ↓AF.ev_func, ↓ex_move, ↓ex_guard, ↓ex_pick, ↓AF.ev_bool, ↓ex_assign, aFieldAddr, aload, partOf, frame0, beq_bytes, int_bne, int_beq, DJob.row, f2, f3, fl, b1, b2, h0]
     exact key _ (by simp [h0])
 intro F3 f4
 refine hK4 _ _ ?_
 try clear hK4 K4
 refine T_ret ?_
 try simp only [thenK_ret, blockT_ret, loopT_ret, jumpT_ret]
 refine owes_one (.inr rfl) hwf rfl ?_ hext ?_ ?_
 rw [f4]
 have c0 : x.name = y.name ∧ x.interval = y.interval ∧ x.single = y.single ∧ x.priority = y.priority ∧ x.bound = y.bound := Decidable.byContradiction fun hp => by rw [decide_eq_false hp] at c0; simp at c0
 simp [DJob.ext_iff]
 simp_all
 rw [f4]; simp
 rw [f4]; simp
set_option maxRecDepth 100000 in
theorem sameJobP (H : AS) (c d : Nat) (x y : DJob) (hb1 : x.codes.length < 2 ^ 62) (hb2 : x.bases.length < 2 ^ 62) : ACalls Tryz.prog 31 [.agg (x.row c), .agg (y.row d)] H fun r H' => r = .val (.bool (decide (x = y))) ∧ H' = H := by
 refine ACalls_intro Tryz.func31 rfl (by kernel_rfl) (by simp) fun hwf hbel => ?_
 refine T_sr fun K0 hK0 => ?_
 simp [↓put_at, ↓AF.ev_tmp, ↓ex_cons, ↓ex_nil, ↓ex_box, ↓ex_assign, ↓AF.ev_bool, abox, frame0]
 refine hK0 _ _ ?_
 try clear hK0 K0
 refine T_sr fun K1 hK1 => ?_
 suffices key : ∀ (F2 : AF) (H2 : AS), F2 4 = pb (decide (x.name = y.name ∧ x.interval = y.interval ∧ x.single = y.single ∧ x.priority = y.priority ∧ x.bound = y.bound ∧ x.codes = y.codes ∧ x.bases = y.bases)) → H.Ext H2 → K1 F2 H2 by
   by_cases h0 : x.name = y.name
   · by_cases h1 : x.interval = y.interval
     · by_cases h2 : x.single = y.single
       · by_cases h3 : x.priority = y.priority
         · by_cases h4 : x.bound = y.bound
           · by_cases h5 : x.codes = y.codes
             · by_cases h6 : x.bases = y.bases
               · simp [↓put_at, ↓AF.ev_tmp, ↓ex_cons, ↓ex_nil, ↓ex_fieldAddr, ↓ex_load, ↓ex_binOp, ↓ex_move, ↓ex_guard, ↓ex_pick, ↓AF.ev_bool, ↓ex_call, ↓AF.ev_func, ↓ex_assign, aFieldAddr, aload, partOf, aBin, aBinV, frame0, beq_bytes, int_bne, int_beq, DJob.row, h0, h1, h2, h3, h4]
                 refine callK.of (eqInts _ c d x.codes y.codes hb1) ?_
                 rintro _ _ ⟨rfl, rfl⟩
                 simp [↓put_at, ↓AF.ev_tmp, ↓ex_cons, ↓ex_nil, ↓ex_fieldAddr, ↓ex_load, ↓ex_binOp, ↓ex_move, ↓ex_guard, ↓ex_pick, ↓AF.ev_bool, ↓ex_call, ↓AF.ev_func, ↓ex_assign, aFieldAddr, aload, partOf, aBin, aBinV, frame0, beq_bytes, int_bne, int_beq, DJob.row, h0, h1, h2, h3, h4, h5]
                 refine callK.of (eqInts _ c d x.bases y.bases hb2) ?_
                 rintro _ _ ⟨rfl, rfl⟩
                 simp [↓put_at, ↓AF.ev_tmp, ↓ex_cons, ↓ex_nil, ↓ex_fieldAddr, ↓ex_load, ↓ex_binOp, ↓ex_move, ↓ex_guard, ↓ex_pick, ↓AF.ev_bool, ↓ex_call, ↓AF.ev_func, ↓ex_assign, aFieldAddr, aload, partOf, aBin, aBinV, frame0, beq_bytes, int_bne, int_beq, DJob.row, h0, h1, h2, h3, h4, h5, h6]
                 exact key _ _ (by simp [h0, h1, h2, h3, h4, h5, h6]) (by repeat (first | exact AS.Ext.refl _ | refine AS.Ext.kill (by simp) ?_ | refine AS.Ext.bump ?_ | refine AS.Ext.setBox (by simp) ?_))
               · simp [↓put_at, ↓AF.ev_tmp, ↓ex_cons, ↓ex_nil, ↓ex_fieldAddr, ↓ex_load, ↓ex_binOp, ↓ex_move, ↓ex_guard, ↓ex_pick, ↓AF.ev_bool, ↓ex_call, ↓AF.ev_func, ↓ex_assign, aFieldAddr, aload, partOf, aBin, aBinV, frame0, beq_bytes, int_bne, int_beq, DJob.row, h0, h1, h2, h3, h4]
                 refine callK.of (eqInts _ c d x.codes y.codes hb1) ?_
                 rintro _ _ ⟨rfl, rfl⟩
                 simp [↓put_at, ↓AF.ev_tmp, ↓ex_cons, ↓ex_nil, ↓ex_fieldAddr, ↓ex_load, ↓ex_binOp, ↓ex_move, ↓ex_guard, ↓ex_pick, ↓AF.ev_bool, ↓ex_call, ↓AF.ev_func, ↓ex_assign, aFieldAddr, aload, partOf, aBin, aBinV, frame0, beq_bytes, int_bne, int_beq, DJob.row, h0, h1, h2, h3, h4, h5]
                 refine callK.of (eqInts _ c d x.bases y.bases hb2) ?_
                 rintro _ _ ⟨rfl, rfl⟩
                 simp [↓put_at, ↓AF.ev_tmp, ↓ex_cons, ↓ex_nil, ↓ex_fieldAddr, ↓ex_load, ↓ex_binOp, ↓ex_move, ↓ex_guard, ↓ex_pick, ↓AF.ev_bool, ↓ex_call, ↓AF.ev_func, ↓ex_assign, aFieldAddr, aload, partOf, aBin, aBinV, frame0, beq_bytes, int_bne, int_beq, DJob.row, h0, h1, h2, h3, h4, h5, h6]
                 exact key _ _ (by simp [h0, h1, h2, h3, h4, h5, h6]) (by repeat (first | exact AS.Ext.refl _ | refine AS.Ext.kill (by simp) ?_ | refine AS.Ext.bump ?_ | refine AS.Ext.setBox (by simp) ?_))
             · simp [↓put_at, ↓AF.ev_tmp, ↓ex_cons, ↓ex_nil, ↓ex_fieldAddr, ↓ex_load, ↓ex_binOp, ↓ex_move, ↓ex_guard, ↓ex_pick, ↓AF.ev_bool, ↓ex_call, ↓AF.ev_func, ↓ex_assign, aFieldAddr, aload, partOf, aBin, aBinV, frame0, beq_bytes, int_bne, int_beq, DJob.row, h0, h1, h2, h3, h4]
               refine callK.of (eqInts _ c d x.codes y.codes hb1) ?_
               rintro _ _ ⟨rfl, rfl⟩
               simp [↓put_at, ↓AF.ev_tmp, ↓ex_cons, ↓ex_nil, ↓ex_fieldAddr, ↓ex_load, ↓ex_binOp, ↓ex_move, ↓ex_guard, ↓ex_pick, ↓AF.ev_bool, ↓ex_call, ↓AF.ev_func, ↓ex_assign, aFieldAddr, aload, partOf, aBin, aBinV, frame0, beq_bytes, int_bne, int_beq, DJob.row, h0, h1, h2, h3, h4, h5]
               exact key _ _ (by simp [h0, h1, h2, h3, h4, h5]) (by repeat (first | exact AS.Ext.refl _ | refine AS.Ext.kill (by simp) ?_ | refine AS.Ext.bump ?_ | refine AS.Ext.setBox (by simp) ?_))
           · simp [↓put_at, ↓AF.ev_tmp, ↓ex_cons, ↓ex_nil, ↓ex_fieldAddr, ↓ex_load, ↓ex_binOp, ↓ex_move, ↓ex_guard, ↓ex_pick, ↓AF.ev_bool, ↓ex_call, ↓AF.ev_func, ↓ex_assign, aFieldAddr, aload, partOf, aBin, aBinV, frame0, beq_bytes, int_bne, int_beq, DJob.row, h0, h1, h2, h3, h4]
             exact key _ _ (by simp [h0, h1, h2, h3, h4]) (by repeat (first | exact AS.Ext.refl _ | refine AS.Ext.kill (by simp) ?_ | refine AS.Ext.bump ?_ | refine AS.Ext.setBox (by simp) ?_))
         · simp [↓put_at, ↓AF.ev_tmp, ↓ex_cons, ↓ex_nil, ↓ex_fieldAddr, ↓ex_load, ↓ex_binOp, ↓ex_move, ↓ex_guard, ↓ex_pick, ↓AF.ev_bool, ↓ex_call, ↓AF.ev_func, ↓ex_assign, aFieldAddr, aload, partOf, aBin, aBinV, frame0, beq_bytes, int_bne, int_beq, DJob.row, h0, h1, h2, h3]
           exact key _ _ (by simp [h0, h1, h2, h3]) (by repeat (first | exact AS.Ext.refl _ | refine AS.Ext.kill (by simp) ?_ | refine AS.Ext.bump ?_ | refine AS.Ext.setBox (by simp) ?_))
       · simp [↓put_at, ↓AF.ev_tmp, ↓ex_cons, ↓ex_nil, ↓ex_fieldAddr, ↓ex_load, ↓ex_binOp, ↓ex_move, ↓ex_guard, ↓ex_pick, ↓AF.ev_bool, ↓ex_call, ↓AF.ev_func, ↓ex_assign, aFieldAddr, aload, partOf, aBin, aBinV, frame0, beq_bytes, int_bne, int_beq, DJob.row, h0, h1, h2]
         exact key _ _ (by simp [h0, h1, h2]) (by repeat (first | exact AS.Ext.refl _ | refine AS.Ext.kill (by simp) ?_ | refine AS.Ext.bump ?_ | refine AS.Ext.setBox (by simp) ?_))
     · simp [↓put_at, ↓AF.ev_tmp, ↓ex_cons, ↓ex_nil, ↓ex_fieldAddr, ↓ex_load, ↓ex_binOp, ↓ex_move, ↓ex_guard, ↓ex_pick, ↓AF.ev_bool, ↓ex_call, ↓AF.ev_func, ↓ex_assign, aFieldAddr, aload, partOf, aBin, aBinV, frame0, beq_bytes, int_bne, int_beq, DJob.row, h0, h1]
       exact key _ _ (by simp [h0, h1]) (by repeat (first | exact AS.Ext.refl _ | refine AS.Ext.kill (by simp) ?_ | refine AS.Ext.bump ?_ | refine AS.Ext.setBox (by simp) ?_))
   · simp [↓put_at, ↓AF.ev_tmp, ↓ex_cons, ↓ex_nil, ↓ex_fieldAddr, ↓ex_load, ↓ex_binOp, ↓ex_move, ↓ex_guard, ↓ex_pick, ↓AF.ev_bool, ↓ex_call, ↓AF.ev_func, ↓ex_assign, aFieldAddr, aload, partOf, aBin, aBinV, frame0, beq_bytes, int_bne, int_beq, DJob.row, h0]
     exact key _ _ (by simp [h0]) (by repeat (first | exact AS.Ext.refl _ | refine AS.Ext.kill (by simp) ?_ | refine AS.Ext.bump ?_ | refine AS.Ext.setBox (by simp) ?_))
 intro F2 H2 f4 hext
 refine hK1 _ _ ?_
 try clear hK1 K1
 refine T_ret ?_
 try simp only [thenK_ret, blockT_ret, loopT_ret, jumpT_ret]
 refine owes_one (.inr rfl) hwf rfl ?_ hext ?_ ?_
 rw [f4]
 exact congrArg (fun b => PV.val (.bool b)) (decide_eq_decide.mpr ⟨fun h => by rw [DJob.ext_iff]; simp_all, fun h => by subst h; simp⟩)
 rw [f4]; simp
 rw [f4]; simp
end Go.Abs
namespace Go.Abs
open Go.Proofs
set_option autoImplicit false
set_option linter.all false
set_option maxRecDepth 100000 in
theorem sameFlats (H : AS) (c d : Nat) (xs ys : List DFlat) (hx : xs.length < 2 ^ 62) (hs : ∀ x ∈ xs, x.Small) : ACalls Tryz.prog 30 [PV.sl c 8 (xs.map (DFlat.row c)), PV.sl d 8 (ys.map (DFlat.row d))] H fun r H' => r = .val (.bool (decide (xs = ys))) ∧ H' = H := by
 refine ACalls_intro Tryz.func30 rfl (by kernel_rfl) (by simp) fun hwf hbel => ?_
 refine T_sr fun K0 hK0 => ?_
 simp [↓put_at, ↓AF.ev_tmp, ↓ex_cons, ↓ex_nil, ↓ex_assign, ↓AF.ev_bool, frame0]
 refine hK0 _ _ ?_
 try clear hK0 K0
 refine T_seqk fun K1 hK1 => ?_
 refine T_sr fun K2 hK2 => ?_
 simp [↓put_at, ↓AF.ev_tmp, ↓ex_cons, ↓ex_nil, ↓ex_move, ↓ex_len, ↓ex_binOp, aLen, aBin, aBinV, frame0]
 refine hK2 _ _ ?_
 try clear hK2 K2
 refine T_cond (rfl) (fun c0 => ?_) (fun c0 => ?_)
 simp at c0
 refine T_sr fun K3 hK3 => ?_
 simp [↓put_at, ↓AF.ev_tmp, ↓ex_cons, ↓ex_nil, ↓ex_assign, ↓AF.ev_bool, frame0]
 refine hK3 _ _ ?_
 try clear hK3 K3
 refine T_ret ?_
 try simp only [thenK_ret, blockT_ret, loopT_ret, jumpT_ret]
 refine owes_pure (.inr rfl) hwf rfl ?_ ?_ ?_
 simp [frzVs, frzV, frz]; exact .refl _
 simp [frzVs, frzV, frz]
 simp [frzVs, frzV, frz, packed]
 intro e; subst e; simp at c0
 have hyl : ys.length = xs.length := by simp at c0; omega
 refine T_skip ?_
 try simp only [tN, bN, lN]
 refine hK1 _ _ ?_
 try clear hK1 K1
 refine T_seqk fun K4 hK4 => ?_
 refine T_sr fun K5 hK5 => ?_
 simp [↓put_at, ↓AF.ev_tmp, ↓ex_cons, ↓ex_nil, ↓ex_move, ↓ex_len, ↓AF.ev_int, aLen, frame0]
 refine hK5 _ _ ?_
 try clear hK5 K5
 refine T_block ?_
 refine T_loop (fun k F H' => ∃ i : Nat, k = xs.length - i ∧ i ≤ xs.length ∧ F 0 = PV.sl c 8 (xs.map (DFlat.row c)) ∧ F 1 = PV.sl d 8 (ys.map (DFlat.row d)) ∧ F 12 = .val (.int .i64 xs.length) ∧ F 13 = .val (.int .i64 i) ∧ H = H' ∧ xs.take i = ys.take i) (xs.length) ?_ ?_
 refine ⟨0, ?_⟩
 simp [frame0]
 rintro k F H' ⟨i, rfl, hi, h0, h1, h12, h13, rfl, htake⟩
 refine T_sr fun K6 hK6 => ?_
 simp [↓put_at, ↓AF.ev_tmp, ↓ex_cons, ↓ex_nil, ↓ex_binOp, aBin, aBinV, frame0, h0, h1, h12, h13]
 refine hK6 _ _ ?_
 try clear hK6 K6
 refine T_seqk fun K7 hK7 => ?_
 refine T_cond (by first | rfl | exact h0 | exact h1 | exact h12 | exact h13) (fun c1 => ?_) (fun c1 => ?_)
 have hlt : i < xs.length := by simpa using c1
 refine T_skip ?_
 try simp only [tN, bN, lN]
 refine hK7 _ _ ?_
 try clear hK7 K7
 refine T_seqk fun K8 hK8 => ?_
 refine T_block ?_
 refine T_sr fun K9 hK9 => ?_
 simp [↓put_at, ↓AF.ev_tmp, ↓ex_cons, ↓ex_nil, ↓ex_move, ↓ex_assign, frame0, h0, h1, h12, h13]
 refine hK9 _ _ ?_
 try clear hK9 K9
 refine T_seqk fun K10 hK10 => ?_
 refine T_draw (fun _ => True) [] (.free 0 (.free 1 (.free 2 (.free 3 (.free 4 (.free 5 (.free 6 (.free 7 (.free 8 (.free 9 .done)))))))))) mix ?_ ?_ ?_
 kernel_rfl
 kernel_rfl
 have hlt' : i < ys.length := by omega
 simp [↓put_at, ↓AF.ev_tmp, ↓wk_free, ↓wk_sole, ↓wk_done, ↓wanted_none, Keeps, Same, ↓wk_move, ↓wk_indexAddr, ↓wk_load, ↓wk_call, ↓AF.ev_func, ↓wk_unOp, aIndexAddr, aload, aUn, frame0, h0, h1, h12, h13, sl_get (map_get (f := DFlat.row c) hlt), sl_get (map_get (f := DFlat.row d) hlt'), part_flat]
 refine askK.of _ ?_ (fun H' hS => sameFlat H' c d xs[i] ys[i] (by have := (hs _ (List.getElem_mem hlt)).1; omega) (by have := (hs _ (List.getElem_mem hlt)).2; omega)) ?_
 intro H' hS; first | rfl | (rw [hS.2])
 simp [↓put_at, ↓AF.ev_tmp, ↓wk_free, ↓wk_sole, ↓wk_done, ↓wanted_none, Keeps, Same, ↓wk_move, ↓wk_indexAddr, ↓wk_load, ↓wk_call, ↓AF.ev_func, ↓wk_unOp, aIndexAddr, aload, aUn, frame0, h0, h1, h12, h13, sl_get (map_get (f := DFlat.row c) hlt), sl_get (map_get (f := DFlat.row d) hlt'), part_flat]
 refine hK10 _ _ ?_
 try clear hK10 K10
 refine T_cond (by first | rfl | exact h0 | exact h1 | exact h12 | exact h13) (fun c2 => ?_) (fun c2 => ?_)
 refine T_sr fun K11 hK11 => ?_
 simp [↓put_at, ↓AF.ev_tmp, ↓ex_cons, ↓ex_nil, ↓ex_assign, ↓AF.ev_bool, frame0, h0, h1, h12, h13]
 refine hK11 _ _ ?_
 try clear hK11 K11
 refine T_ret ?_
 try simp only [thenK_ret, blockT_ret, loopT_ret, jumpT_ret]
 refine owes_pure (.inr rfl) hwf rfl ?_ ?_ ?_
 simp [frzVs, frzV, frz]; exact .refl _
 simp [frzVs, frzV, frz]
 simp [frzVs, frzV, frz, packed]
 intro e; subst e; simp at c2
 have heq : xs[i] = ys[i] := by simpa using c2
 refine T_skip ?_
 try simp only [tN, bN, lN]
 refine hK8 _ _ ?_
 try clear hK8 K8
 refine T_rg ?_
 simp [↓put_at, ↓AF.ev_tmp, ↓ex_cons, ↓ex_nil, ↓ex_binOp, ↓AF.ev_int, ↓ex_move, aBin, aBinV, frame0, h0, h1, h12, h13]
 refine ⟨xs.length - (i + 1), by omega, i + 1, rfl, by omega, ?_⟩
 simp [h0, h1, h12, h13]
 rw [wrap_i64 (by omega) (by omega)]
 refine ⟨rfl, ?_⟩
 rw [List.take_succ_eq_append_getElem hlt, List.take_succ_eq_append_getElem hlt', htake, heq]
 have hge : xs.length ≤ i := by simpa using c1
 refine T_exit ?_
 try simp only [tE, bE, lE, if_true, Nat.reduceEqDiff, if_false, reduceIte, tN, bN, lN]
 refine hK4 _ _ ?_
 try clear hK4 K4
 refine T_sr fun K12 hK12 => ?_
 simp [↓put_at, ↓AF.ev_tmp, ↓ex_cons, ↓ex_nil, ↓ex_assign, ↓AF.ev_bool, frame0, h0, h1, h12, h13]
 refine hK12 _ _ ?_
 try clear hK12 K12
 refine T_ret ?_
 try simp only [thenK_ret, blockT_ret, loopT_ret, jumpT_ret]
 refine owes_pure (.inr rfl) hwf rfl ?_ ?_ ?_
 simp [frzVs, frzV, frz]; exact .refl _
 simp [frzVs, frzV, frz]
 simp [frzVs, frzV, frz, packed]
 rw [List.take_of_length_le hge, List.take_of_length_le (by omega)] at htake
 exact htake
set_option maxRecDepth 100000 in
theorem equalCodes (H : AS) (c d : Nat) (xs ys : List DFlat) (hx : xs.length < 2 ^ 62) (hs : ∀ x ∈ xs, x.Small) : ACalls Tryz.prog 41 [PV.sl c 8 (xs.map (DFlat.row c)), PV.sl d 8 (ys.map (DFlat.row d)), .func 42 []] H fun r H' => r = .val (.bool (decide (xs = ys))) ∧ H' = H := by
 refine ACalls_intro Tryz.func41 rfl (by kernel_rfl) (by simp) fun hwf hbel => ?_
 refine T_sr fun K0 hK0 => ?_
 simp [↓put_at, ↓AF.ev_tmp, ↓ex_cons, ↓ex_nil, ↓ex_assign, ↓AF.ev_bool, frame0]
 refine hK0 _ _ ?_
 try clear hK0 K0
 refine T_seqk fun K1 hK1 => ?_
 refine T_sr fun K2 hK2 => ?_
 simp [↓put_at, ↓AF.ev_tmp, ↓ex_cons, ↓ex_nil, ↓ex_move, ↓ex_len, ↓ex_binOp, aLen, aBin, aBinV, frame0]
 refine hK2 _ _ ?_
 try clear hK2 K2
 refine T_cond (rfl) (fun c0 => ?_) (fun c0 => ?_)
 simp at c0
 refine T_sr fun K3 hK3 => ?_
 simp [↓put_at, ↓AF.ev_tmp, ↓ex_cons, ↓ex_nil, ↓ex_assign, ↓AF.ev_bool, frame0]
 refine hK3 _ _ ?_
 try clear hK3 K3
 refine T_ret ?_
 try simp only [thenK_ret, blockT_ret, loopT_ret, jumpT_ret]
 refine owes_pure (.inr rfl) hwf rfl ?_ ?_ ?_
 simp [frzVs, frzV, frz]; exact .refl _
 simp [frzVs, frzV, frz]
 simp [frzVs, frzV, frz, packed]
 intro e; subst e; simp at c0
 have hyl : ys.length = xs.length := by simp at c0; omega
 refine T_skip ?_
 try simp only [tN, bN, lN]
 refine hK1 _ _ ?_
 try clear hK1 K1
 refine T_seqk fun K4 hK4 => ?_
 refine T_sr fun K5 hK5 => ?_
 simp [↓put_at, ↓AF.ev_tmp, ↓ex_cons, ↓ex_nil, ↓ex_move, ↓ex_len, ↓AF.ev_int, aLen, frame0]
 refine hK5 _ _ ?_
 try clear hK5 K5
 refine T_block ?_
 refine T_loop (fun k F H' => ∃ i : Nat, k = xs.length - i ∧ i ≤ xs.length ∧ F 1 = PV.sl d 8 (ys.map (DFlat.row d)) ∧ F 2 = .func 42 [] ∧ F 15 = PV.sl c 8 (xs.map (DFlat.row c)) ∧ F 16 = .val (.int .i64 xs.length) ∧ F 17 = .val (.int .i64 i) ∧ H.Ext H' ∧ xs.take i = ys.take i) (xs.length) ?_ ?_
 refine ⟨0, ?_⟩
 simp [frame0]
 exact .refl _
 rintro k F H' ⟨i, rfl, hi, h1, h2, h15, h16, h17, hext, htake⟩
 refine T_sr fun K6 hK6 => ?_
 simp [↓put_at, ↓AF.ev_tmp, ↓ex_cons, ↓ex_nil, ↓ex_binOp, aBin, aBinV, frame0, h1, h2, h15, h16, h17]
 refine hK6 _ _ ?_
 try clear hK6 K6
 refine T_seqk fun K7 hK7 => ?_
 refine T_cond (by first | rfl | exact h1 | exact h2 | exact h15 | exact h16 | exact h17) (fun c1 => ?_) (fun c1 => ?_)
 have hlt : i < xs.length := by simpa using c1
 refine T_skip ?_
 try simp only [tN, bN, lN]
 refine hK7 _ _ ?_
 try clear hK7 K7
 refine T_seqk fun K8 hK8 => ?_
 refine T_block ?_
 refine T_sr fun K9 hK9 => ?_
 simp [↓put_at, ↓AF.ev_tmp, ↓ex_cons, ↓ex_nil, ↓ex_move, ↓ex_indexAddr, ↓ex_load, ↓ex_alloc, ↓ex_assign, ↓ex_store, aIndexAddr, aload, partOf, aalloc, astore, splice, frame0, h1, h2, h15, h16, h17, sl_get (map_get (f := DFlat.row c) hlt), DFlat.row]
 refine hK9 _ _ ?_
 try clear hK9 K9
 refine T_sr fun K10 hK10 => ?_
 have hlt' : i < ys.length := by omega
 simp [↓put_at, ↓AF.ev_tmp, ↓ex_cons, ↓ex_nil, ↓ex_move, ↓ex_indexAddr, ↓ex_load, ↓ex_alloc, ↓ex_store, aIndexAddr, aload, partOf, aalloc, astore, splice, frame0, h1, h2, h15, h16, h17, sl_get (map_get (f := DFlat.row d) hlt'), DFlat.row]
 refine hK10 _ _ ?_
 try clear hK10 K10
 refine T_sr fun K11 hK11 => ?_
 simp [↓put_at, ↓AF.ev_tmp, ↓ex_cons, ↓ex_nil, ↓ex_move, ↓ex_load, ↓ex_call, ↓ex_unOp, aload, partOf, aUn, frame0, h1, h2, h15, h16, h17, DFlat.row]
 refine callK.of (sameCode _ c d xs[i] ys[i] (by have := (hs _ (List.getElem_mem hlt)).1; omega) (by have := (hs _ (List.getElem_mem hlt)).2; omega)) ?_
 rintro _ Hz ⟨rfl, hz⟩
 subst Hz
 simp [↓put_at, ↓AF.ev_tmp, ↓ex_cons, ↓ex_nil, ↓ex_move, ↓ex_load, ↓ex_call, ↓ex_unOp, aload, partOf, aUn, frame0, h1, h2, h15, h16, h17, DFlat.row]
 refine hK11 _ _ ?_
 try clear hK11 K11
 refine T_cond (by first | rfl | exact h1 | exact h2 | exact h15 | exact h16 | exact h17) (fun c2 => ?_) (fun c2 => ?_)
 refine T_sr fun K12 hK12 => ?_
 simp [↓put_at, ↓AF.ev_tmp, ↓ex_cons, ↓ex_nil, ↓ex_assign, ↓AF.ev_bool, frame0, h1, h2, h15, h16, h17]
 refine hK12 _ _ ?_
 try clear hK12 K12
 refine T_ret ?_
 try simp only [thenK_ret, blockT_ret, loopT_ret, jumpT_ret]
 refine owes_one (.inr rfl) hwf rfl ?_ (by repeat (first | exact hext | refine AS.Ext.kill (by have := hext.next; simp; omega) ?_ | refine AS.Ext.bump ?_ | refine AS.Ext.setBox (by have := hext.next; simp; omega) ?_)) (by simp) (by simp)
 simp
 intro e; subst e; simp at c2
 have heq : xs[i] = ys[i] := by simpa using c2
 refine T_skip ?_
 try simp only [tN, bN, lN]
 refine hK8 _ _ ?_
 try clear hK8 K8
 refine T_rg ?_
 simp [↓put_at, ↓AF.ev_tmp, ↓ex_cons, ↓ex_nil, ↓ex_binOp, ↓AF.ev_int, ↓ex_move, aBin, aBinV, frame0, h1, h2, h15, h16, h17]
 refine ⟨xs.length - (i + 1), by omega, i + 1, rfl, by omega, ?_⟩
 simp [h1, h2, h15, h16, h17]
 rw [wrap_i64 (by omega) (by omega)]
 refine ⟨rfl, by repeat (first | exact hext | refine AS.Ext.kill (by have := hext.next; simp; omega) ?_ | refine AS.Ext.bump ?_ | refine AS.Ext.setBox (by have := hext.next; simp; omega) ?_), ?_⟩
 rw [List.take_succ_eq_append_getElem hlt, List.take_succ_eq_append_getElem hlt', htake, heq]
 have hge : xs.length ≤ i := by simpa using c1
 refine T_exit ?_
 try simp only [tE, bE, lE, if_true, Nat.reduceEqDiff, if_false, reduceIte, tN, bN, lN]
 refine hK4 _ _ ?_
 try clear hK4 K4
 refine T_sr fun K13 hK13 => ?_
 simp [↓put_at, ↓AF.ev_tmp, ↓ex_cons, ↓ex_nil, ↓ex_assign, ↓AF.ev_bool, frame0, h1, h2, h15, h16, h17]
 refine hK13 _ _ ?_
 try clear hK13 K13
 refine T_ret ?_
 try simp only [thenK_ret, blockT_ret, loopT_ret, jumpT_ret]
 refine owes_one (.inr rfl) hwf rfl ?_ (by repeat (first | exact hext | refine AS.Ext.kill (by have := hext.next; simp; omega) ?_ | refine AS.Ext.bump ?_ | refine AS.Ext.setBox (by have := hext.next; simp; omega) ?_)) (by simp) (by simp)
 simp
 rw [List.take_of_length_le hge, List.take_of_length_le (by omega)] at htake
 exact htake
set_option maxRecDepth 100000 in
theorem equalJobs (H : AS) (c d : Nat) (xs ys : List DJob) (hx : xs.length < 2 ^ 62) (hs : ∀ x ∈ xs, x.Small) : ACalls Tryz.prog 43 [PV.sl c 7 (xs.map (DJob.row c)), PV.sl d 7 (ys.map (DJob.row d)), .func 44 []] H fun r H' => r = .val (.bool (decide (xs = ys))) ∧ H' = H := by
 refine ACalls_intro Tryz.func43 rfl (by kernel_rfl) (by simp) fun hwf hbel => ?_
 refine T_sr fun K0 hK0 => ?_
 simp [↓put_at, ↓AF.ev_tmp, ↓ex_cons, ↓ex_nil, ↓ex_assign, ↓AF.ev_bool, frame0]
 refine hK0 _ _ ?_
 try clear hK0 K0
 refine T_seqk fun K1 hK1 => ?_
 refine T_sr fun K2 hK2 => ?_
 simp [↓put_at, ↓AF.ev_tmp, ↓ex_cons, ↓ex_nil, ↓ex_move, ↓ex_len, ↓ex_binOp, aLen, aBin, aBinV, frame0]
 refine hK2 _ _ ?_
 try clear hK2 K2
 refine T_cond (rfl) (fun c0 => ?_) (fun c0 => ?_)
 simp at c0
 refine T_sr fun K3 hK3 => ?_
 simp [↓put_at, ↓AF.ev_tmp, ↓ex_cons, ↓ex_nil, ↓ex_assign, ↓AF.ev_bool, frame0]
 refine hK3 _ _ ?_
 try clear hK3 K3
 refine T_ret ?_
 try simp only [thenK_ret, blockT_ret, loopT_ret, jumpT_ret]
 refine owes_pure (.inr rfl) hwf rfl ?_ ?_ ?_
 simp [frzVs, frzV, frz]; exact .refl _
 simp [frzVs, frzV, frz]
 simp [frzVs, frzV, frz, packed]
 intro e; subst e; simp at c0
 have hyl : ys.length = xs.length := by simp at c0; omega
 refine T_skip ?_
 try simp only [tN, bN, lN]
 refine hK1 _ _ ?_
 try clear hK1 K1
 refine T_seqk fun K4 hK4 => ?_
 refine T_sr fun K5 hK5 => ?_
 simp [↓put_at, ↓AF.ev_tmp, ↓ex_cons, ↓ex_nil, ↓ex_move, ↓ex_len, ↓AF.ev_int, aLen, frame0]
 refine hK5 _ _ ?_
 try clear hK5 K5
 refine T_block ?_
 refine T_loop (fun k F H' => ∃ i : Nat, k = xs.length - i ∧ i ≤ xs.length ∧ F 1 = PV.sl d 7 (ys.map (DJob.row d)) ∧ F 2 = .func 44 [] ∧ F 15 = PV.sl c 7 (xs.map (DJob.row c)) ∧ F 16 = .val (.int .i64 xs.length) ∧ F 17 = .val (.int .i64 i) ∧ H.Ext H' ∧ xs.take i = ys.take i) (xs.length) ?_ ?_
 refine ⟨0, ?_⟩
 simp [frame0]
 exact .refl _
 rintro k F H' ⟨i, rfl, hi, h1, h2, h15, h16, h17, hext, htake⟩
 refine T_sr fun K6 hK6 => ?_
 simp [↓put_at, ↓AF.ev_tmp, ↓ex_cons, ↓ex_nil, ↓ex_binOp, aBin, aBinV, frame0, h1, h2, h15, h16, h17]
 refine hK6 _ _ ?_
 try clear hK6 K6
 refine T_seqk fun K7 hK7 => ?_
 refine T_cond (by first | rfl | exact h1 | exact h2 | exact h15 | exact h16 | exact h17) (fun c1 => ?_) (fun c1 => ?_)
 have hlt : i < xs.length := by simpa using c1
 refine T_skip ?_
 try simp only [tN, bN, lN]
 refine hK7 _ _ ?_
 try clear hK7 K7
 refine T_seqk fun K8 hK8 => ?_
 refine T_block ?_
 refine T_sr fun K9 hK9 => ?_
 simp [↓put_at, ↓AF.ev_tmp, ↓ex_cons, ↓ex_nil, ↓ex_move, ↓ex_indexAddr, ↓ex_load, ↓ex_alloc, ↓ex_assign, ↓ex_store, aIndexAddr, aload, partOf, aalloc, astore, splice, frame0, h1, h2, h15, h16, h17, sl_get (map_get (f := DJob.row c) hlt), DJob.row]
 refine hK9 _ _ ?_
 try clear hK9 K9
 refine T_sr fun K10 hK10 => ?_
 have hlt' : i < ys.length := by omega
 simp [↓put_at, ↓AF.ev_tmp, ↓ex_cons, ↓ex_nil, ↓ex_move, ↓ex_indexAddr, ↓ex_load, ↓ex_alloc, ↓ex_store, aIndexAddr, aload, partOf, aalloc, astore, splice, frame0, h1, h2, h15, h16, h17, sl_get (map_get (f := DJob.row d) hlt'), DJob.row]
 refine hK10 _ _ ?_
 try clear hK10 K10
 refine T_sr fun K11 hK11 => ?_
 simp [↓put_at, ↓AF.ev_tmp, ↓ex_cons, ↓ex_nil, ↓ex_move, ↓ex_load, ↓ex_call, ↓ex_unOp, aload, partOf, aUn, frame0, h1, h2, h15, h16, h17, DJob.row]
 refine callK.of (sameJob _ c d xs[i] ys[i] (by have := (hs _ (List.getElem_mem hlt)).1; omega) (by have := (hs _ (List.getElem_mem hlt)).2; omega)) ?_
 rintro _ Hz ⟨rfl, hz⟩
 subst Hz
 simp [↓put_at, ↓AF.ev_tmp, ↓ex_cons, ↓ex_nil, ↓ex_move, ↓ex_load, ↓ex_call, ↓ex_unOp, aload, partOf, aUn, frame0, h1, h2, h15, h16, h17, DJob.row]
 refine hK11 _ _ ?_
 try clear hK11 K11
 refine T_cond (by first | rfl | exact h1 | exact h2 | exact h15 | exact h16 | exact h17) (fun c2 => ?_) (fun c2 => ?_)
 refine T_sr fun K12 hK12 => ?_
 simp [↓put_at, ↓AF.ev_tmp, ↓ex_cons, ↓ex_nil, ↓ex_assign, ↓AF.ev_bool, frame0, h1, h2, h15, h16, h17]
 refine hK12 _ _ ?_
 try clear hK12 K12
 refine T_ret ?_
 try simp only [thenK_ret, blockT_ret, loopT_ret, jumpT_ret]
 refine owes_one (.inr rfl) hwf rfl ?_ (by repeat (first | exact hext | refine AS.Ext.kill (by have := hext.next; simp; omega) ?_ | refine AS.Ext.bump ?_ | refine AS.Ext.setBox (by have := hext.next; simp; omega) ?_)) (by simp) (by simp)
 simp
 intro e; subst e; simp at c2
 have heq : xs[i] = ys[i] := by simpa using c2
 refine T_skip ?_
 try simp only [tN, bN, lN]
 refine hK8 _ _ ?_
 try clear hK8 K8
 refine T_rg ?_
 simp [↓put_at, ↓AF.ev_tmp, ↓ex_cons, ↓ex_nil, ↓ex_binOp, ↓AF.ev_int, ↓ex_move, aBin, aBinV, frame0, h1, h2, h15, h16, h17]
 refine ⟨xs.length - (i + 1), by omega, i + 1, rfl, by omega, ?_⟩
 simp [h1, h2, h15, h16, h17]
 rw [wrap_i64 (by omega) (by omega)]
 refine ⟨rfl, by repeat (first | exact hext | refine AS.Ext.kill (by have := hext.next; simp; omega) ?_ | refine AS.Ext.bump ?_ | refine AS.Ext.setBox (by have := hext.next; simp; omega) ?_), ?_⟩
 rw [List.take_succ_eq_append_getElem hlt, List.take_succ_eq_append_getElem hlt', htake, heq]
 have hge : xs.length ≤ i := by simpa using c1
 refine T_exit ?_
 try simp only [tE, bE, lE, if_true, Nat.reduceEqDiff, if_false, reduceIte, tN, bN, lN]
 refine hK4 _ _ ?_
 try clear hK4 K4
 refine T_sr fun K13 hK13 => ?_
 simp [↓put_at, ↓AF.ev_tmp, ↓ex_cons, ↓ex_nil, ↓ex_assign, ↓AF.ev_bool, frame0, h1, h2, h15, h16, h17]
 refine hK13 _ _ ?_
 try clear hK13 K13
 refine T_ret ?_
 try simp only [thenK_ret, blockT_ret, loopT_ret, jumpT_ret]
 refine owes_one (.inr rfl) hwf rfl ?_ (by repeat (first | exact hext | refine AS.Ext.kill (by have := hext.next; simp; omega) ?_ | refine AS.Ext.bump ?_ | refine AS.Ext.setBox (by have := hext.next; simp; omega) ?_)) (by simp) (by simp)
 simp
 rw [List.take_of_length_le hge, List.take_of_length_le (by omega)] at htake
 exact htake
set_option maxRecDepth 100000 in
theorem sameImages (H : AS) (c d : Nat) (x y : DImage) (hx : x.Small) : ACalls Tryz.prog 16 [.agg (x.row c), .agg (y.row d)] H fun r H' => r = .val (.bool (decide (x = y))) ∧ H' = H := by
 refine ACalls_intro Tryz.func16 rfl (by kernel_rfl) (by simp) fun hwf hbel => ?_
 obtain ⟨hx1, hx2, hx3, hx4, hx5⟩ := hx
 refine T_sr fun K0 hK0 => ?_
 simp [↓put_at, ↓AF.ev_tmp, ↓ex_cons, ↓ex_nil, ↓ex_box, ↓ex_assign, ↓AF.ev_bool, abox, frame0]
 refine hK0 _ _ ?_
 try clear hK0 K0
 refine T_sr fun K1 hK1 => ?_
 suffices key : ∀ (F2 : AF) (H2 : AS), F2 4 = pb (decide (x.name = y.name ∧ x.cells = y.cells ∧ x.codes = y.codes ∧ x.jobs = y.jobs)) → H.Ext H2 → K1 F2 H2 by
   by_cases h0 : x.name = y.name
   · by_cases h1 : x.cells = y.cells
     · by_cases h2 : x.codes = y.codes
       · by_cases h3 : x.jobs = y.jobs
         · simp [↓put_at, ↓AF.ev_tmp, ↓ex_cons, ↓ex_nil, ↓ex_fieldAddr, ↓ex_load, ↓ex_binOp, ↓ex_move, ↓ex_guard, ↓ex_call, ↓AF.ev_func, ↓ex_pick, ↓AF.ev_bool, ↓ex_assign, aFieldAddr, aload, partOf, aBin, aBinV, frame0, beq_bytes, int_bne, int_beq, DImage.row, h0]
           refine callK.of (eqCells _ c d x.cells y.cells (by omega)) ?_
           rintro _ _ ⟨rfl, rfl⟩
           simp [↓put_at, ↓AF.ev_tmp, ↓ex_cons, ↓ex_nil, ↓ex_fieldAddr, ↓ex_load, ↓ex_binOp, ↓ex_move, ↓ex_guard, ↓ex_call, ↓AF.ev_func, ↓ex_pick, ↓AF.ev_bool, ↓ex_assign, aFieldAddr, aload, partOf, aBin, aBinV, frame0, beq_bytes, int_bne, int_beq, DImage.row, h0, h1]
           refine callK.of (equalCodes _ c d x.codes y.codes (by omega) hx4) ?_
           rintro _ _ ⟨rfl, rfl⟩
           simp [↓put_at, ↓AF.ev_tmp, ↓ex_cons, ↓ex_nil, ↓ex_fieldAddr, ↓ex_load, ↓ex_binOp, ↓ex_move, ↓ex_guard, ↓ex_call, ↓AF.ev_func, ↓ex_pick, ↓AF.ev_bool, ↓ex_assign, aFieldAddr, aload, partOf, aBin, aBinV, frame0, beq_bytes, int_bne, int_beq, DImage.row, h0, h1, h2]
           refine callK.of (equalJobs _ c d x.jobs y.jobs (by omega) hx5) ?_
           rintro _ _ ⟨rfl, rfl⟩
           simp [↓put_at, ↓AF.ev_tmp, ↓ex_cons, ↓ex_nil, ↓ex_fieldAddr, ↓ex_load, ↓ex_binOp, ↓ex_move, ↓ex_guard, ↓ex_call, ↓AF.ev_func, ↓ex_pick, ↓AF.ev_bool, ↓ex_assign, aFieldAddr, aload, partOf, aBin, aBinV, frame0, beq_bytes, int_bne, int_beq, DImage.row, h0, h1, h2, h3]
           exact key _ _ (by simp [h0, h1, h2, h3]) (by repeat (first | exact AS.Ext.refl _ | refine AS.Ext.kill (by simp) ?_ | refine AS.Ext.bump ?_ | refine AS.Ext.setBox (by simp) ?_))
         · simp [↓put_at, ↓AF.ev_tmp, ↓ex_cons, ↓ex_nil, ↓ex_fieldAddr, ↓ex_load, ↓ex_binOp, ↓ex_move, ↓ex_guard, ↓ex_call, ↓AF.ev_func, ↓ex_pick, ↓AF.ev_bool, ↓ex_assign, aFieldAddr, aload, partOf, aBin, aBinV, frame0, beq_bytes, int_bne, int_beq, DImage.row, h0]
           refine callK.of (eqCells _ c d x.cells y.cells (by omega)) ?_
           rintro _ _ ⟨rfl, rfl⟩
           simp [↓put_at, ↓AF.ev_tmp, ↓ex_cons, ↓ex_nil, ↓ex_fieldAddr, ↓ex_load, ↓ex_binOp, ↓ex_move, ↓ex_guard, ↓ex_call, ↓AF.ev_func, ↓ex_pick, ↓AF.ev_bool, ↓ex_assign, aFieldAddr, aload, partOf, aBin, aBinV, frame0, beq_bytes, int_bne, int_beq, DImage.row, h0, h1]
           refine callK.of (equalCodes _ c d x.codes y.codes (by omega) hx4) ?_
           rintro _ _ ⟨rfl, rfl⟩
           simp [↓put_at, ↓AF.ev_tmp, ↓ex_cons, ↓ex_nil, ↓ex_fieldAddr, ↓ex_load, ↓ex_binOp, ↓ex_move, ↓ex_guard, ↓ex_call, ↓AF.ev_func, ↓ex_pick, ↓AF.ev_bool, ↓ex_assign, aFieldAddr, aload, partOf, aBin, aBinV, frame0, beq_bytes, int_bne, int_beq, DImage.row, h0, h1, h2]
           refine callK.of (equalJobs _ c d x.jobs y.jobs (by omega) hx5) ?_
           rintro _ _ ⟨rfl, rfl⟩
           simp [↓put_at, ↓AF.ev_tmp, ↓ex_cons, ↓ex_nil, ↓ex_fieldAddr, ↓ex_load, ↓ex_binOp, ↓ex_move, ↓ex_guard, ↓ex_call, ↓AF.ev_func, ↓ex_pick, ↓AF.ev_bool, ↓ex_assign, aFieldAddr, aload, partOf, aBin, aBinV, frame0, beq_bytes, int_bne, int_beq, DImage.row, h0, h1, h2, h3]
           exact key _ _ (by simp [h0, h1, h2, h3]) (by repeat (first | exact AS.Ext.refl _ | refine AS.Ext.kill (by simp) ?_ | refine AS.Ext.bump ?_ | refine AS.Ext.setBox (by simp) ?_))
       · simp [↓put_at, ↓AF.ev_tmp, ↓ex_cons, ↓ex_nil, ↓ex_fieldAddr, ↓ex_load, ↓ex_binOp, ↓ex_move, ↓ex_guard, ↓ex_call, ↓AF.ev_func, ↓ex_pick, ↓AF.ev_bool, ↓ex_assign, aFieldAddr, aload, partOf, aBin, aBinV, frame0, beq_bytes, int_bne, int_beq, DImage.row, h0]
         refine callK.of (eqCells _ c d x.cells y.cells (by omega)) ?_
         rintro _ _ ⟨rfl, rfl⟩
         simp [↓put_at, ↓AF.ev_tmp, ↓ex_cons, ↓ex_nil, ↓ex_fieldAddr, ↓ex_load, ↓ex_binOp, ↓ex_move, ↓ex_guard, ↓ex_call, ↓AF.ev_func, ↓ex_pick, ↓AF.ev_bool, ↓ex_assign, aFieldAddr, aload, partOf, aBin, aBinV, frame0, beq_bytes, int_bne, int_beq, DImage.row, h0, h1]
         refine callK.of (equalCodes _ c d x.codes y.codes (by omega) hx4) ?_
         rintro _ _ ⟨rfl, rfl⟩
         simp [↓put_at, ↓AF.ev_tmp, ↓ex_cons, ↓ex_nil, ↓ex_fieldAddr, ↓ex_load, ↓ex_binOp, ↓ex_move, ↓ex_guard, ↓ex_call, ↓AF.ev_func, ↓ex_pick, ↓AF.ev_bool, ↓ex_assign, aFieldAddr, aload, partOf, aBin, aBinV, frame0, beq_bytes, int_bne, int_beq, DImage.row, h0, h1, h2]
         exact key _ _ (by simp [h0, h1, h2]) (by repeat (first | exact AS.Ext.refl _ | refine AS.Ext.kill (by simp) ?_ | refine AS.Ext.bump ?_ | refine AS.Ext.setBox (by simp) ?_))
     · simp [↓put_at, ↓AF.ev_tmp, ↓ex_cons, ↓ex_nil, ↓ex_fieldAddr, ↓ex_load, ↓ex_binOp, ↓ex_move, ↓ex_guard, ↓ex_call, ↓AF.ev_func, ↓ex_pick, ↓AF.ev_bool, ↓ex_assign, aFieldAddr, aload, partOf, aBin, aBinV, frame0, beq_bytes, int_bne, int_beq, DImage.row, h0]
       refine callK.of (eqCells _ c d x.cells y.cells (by omega)) ?_
       rintro _ _ ⟨rfl, rfl⟩
       simp [↓put_at, ↓AF.ev_tmp, ↓ex_cons, ↓ex_nil, ↓ex_fieldAddr, ↓ex_load, ↓ex_binOp, ↓ex_move, ↓ex_guard, ↓ex_call, ↓AF.ev_func, ↓ex_pick, ↓AF.ev_bool, ↓ex_assign, aFieldAddr, aload, partOf, aBin, aBinV, frame0, beq_bytes, int_bne, int_beq, DImage.row, h0, h1]
       exact key _ _ (by simp [h0, h1]) (by repeat (first | exact AS.Ext.refl _ | refine AS.Ext.kill (by simp) ?_ | refine AS.Ext.bump ?_ | refine AS.Ext.setBox (by simp) ?_))
   · simp [↓put_at, ↓AF.ev_tmp, ↓ex_cons, ↓ex_nil, ↓ex_fieldAddr, ↓ex_load, ↓ex_binOp, ↓ex_move, ↓ex_guard, ↓ex_call, ↓AF.ev_func, ↓ex_pick, ↓AF.ev_bool, ↓ex_assign, aFieldAddr, aload, partOf, aBin, aBinV, frame0, beq_bytes, int_bne, int_beq, DImage.row, h0]
     exact key _ _ (by simp [h0]) (by repeat (first | exact AS.Ext.refl _ | refine AS.Ext.kill (by simp) ?_ | refine AS.Ext.bump ?_ | refine AS.Ext.setBox (by simp) ?_))
 intro F2 H2 f4 hext
 refine hK1 _ _ ?_
 try clear hK1 K1
 refine T_ret ?_
 try simp only [thenK_ret, blockT_ret, loopT_ret, jumpT_ret]
 refine owes_one (.inr rfl) hwf rfl ?_ hext ?_ ?_
 rw [f4]
 exact congrArg (fun b => PV.val (.bool b)) (decide_eq_decide.mpr ⟨fun h => by rw [DImage.ext_iff]; simp_all, fun h => by subst h; simp⟩)
 rw [f4]; simp
 rw [f4]; simp
set_option maxRecDepth 100000 in
theorem sameImageP (H : AS) (c d : Nat) (x y : DImage) (hx : x.Small) : ACalls Tryz.prog 12 [.agg (x.row c), .agg (y.row d)] H fun r H' => r = .val (.bool (decide (x = y))) ∧ H' = H := by
 refine ACalls_intro Tryz.func12 rfl (by kernel_rfl) (by simp) fun hwf hbel => ?_
 obtain ⟨hx1, hx2, hx3, hx4, hx5⟩ := hx
 refine T_sr fun K0 hK0 => ?_
 simp [↓put_at, ↓AF.ev_tmp, ↓ex_cons, ↓ex_nil, ↓ex_box, ↓ex_assign, ↓AF.ev_bool, abox, frame0]
 refine hK0 _ _ ?_
 try clear hK0 K0
 refine T_seqk fun K1 hK1 => ?_
 refine T_sr fun K2 hK2 => ?_
 suffices key : ∀ (F2 : AF) (H2 : AS), F2 2 = .ptr H.next 1 0 0 → F2 3 = .ptr (H.next + 1) 1 0 0 → F2 35 = pb (!decide (x.name = y.name ∧ x.cells = y.cells ∧ x.codes = y.codes ∧ x.jobs.length = y.jobs.length)) → H2.box H.next = some [x.row c] → H2.box (H.next + 1) = some [y.row d] → H.Ext H2 → K2 F2 H2 by
   by_cases h0 : x.name = y.name
   · by_cases h1 : x.cells = y.cells
     · by_cases h2 : x.codes = y.codes
       · by_cases h3 : x.jobs.length = y.jobs.length
         · simp [↓put_at, ↓AF.ev_tmp, ↓ex_cons, ↓ex_nil, ↓ex_fieldAddr, ↓ex_load, ↓ex_binOp, ↓ex_move, ↓ex_guard, ↓ex_call, ↓AF.ev_func, ↓ex_unOp, ↓ex_pick, ↓AF.ev_bool, ↓ex_len, aFieldAddr, aload, partOf, aBin, aBinV, aUn, aLen, frame0, beq_bytes, int_bne, int_beq, DImage.row, int_bne, Int.natCast_inj, Int.ofNat_inj, h0]
           refine callK.of (eqCells _ c d x.cells y.cells (by omega)) ?_
           rintro _ _ ⟨rfl, rfl⟩
           simp [↓put_at, ↓AF.ev_tmp, ↓ex_cons, ↓ex_nil, ↓ex_fieldAddr, ↓ex_load, ↓ex_binOp, ↓ex_move, ↓ex_guard, ↓ex_call, ↓AF.ev_func, ↓ex_unOp, ↓ex_pick, ↓AF.ev_bool, ↓ex_len, aFieldAddr, aload, partOf, aBin, aBinV, aUn, aLen, frame0, beq_bytes, int_bne, int_beq, DImage.row, int_bne, Int.natCast_inj, Int.ofNat_inj, h0, h1]
           refine callK.of (sameFlats _ c d x.codes y.codes (by omega) hx4) ?_
           rintro _ _ ⟨rfl, rfl⟩
           simp [↓put_at, ↓AF.ev_tmp, ↓ex_cons, ↓ex_nil, ↓ex_fieldAddr, ↓ex_load, ↓ex_binOp, ↓ex_move, ↓ex_guard, ↓ex_call, ↓AF.ev_func, ↓ex_unOp, ↓ex_pick, ↓AF.ev_bool, ↓ex_len, aFieldAddr, aload, partOf, aBin, aBinV, aUn, aLen, frame0, beq_bytes, int_bne, int_beq, DImage.row, int_bne, Int.natCast_inj, Int.ofNat_inj, h0, h1, h2, h3]
           refine key _ _ ?_ ?_ ?_ ?_ ?_ ?_
           · simp
           · simp
           · simp [h0, h1, h2, h3]
           · simp [DImage.row, h0, h1, h2, h3]
           · simp [DImage.row]
           · exact (by repeat (first | exact AS.Ext.refl _ | refine AS.Ext.kill (by simp) ?_ | refine AS.Ext.bump ?_ | refine AS.Ext.setBox (by simp) ?_))
         · simp [↓put_at, ↓AF.ev_tmp, ↓ex_cons, ↓ex_nil, ↓ex_fieldAddr, ↓ex_load, ↓ex_binOp, ↓ex_move, ↓ex_guard, ↓ex_call, ↓AF.ev_func, ↓ex_unOp, ↓ex_pick, ↓AF.ev_bool, ↓ex_len, aFieldAddr, aload, partOf, aBin, aBinV, aUn, aLen, frame0, beq_bytes, int_bne, int_beq, DImage.row, int_bne, Int.natCast_inj, Int.ofNat_inj, h0]
           refine callK.of (eqCells _ c d x.cells y.cells (by omega)) ?_
           rintro _ _ ⟨rfl, rfl⟩
           simp [↓put_at, ↓AF.ev_tmp, ↓ex_cons, ↓ex_nil, ↓ex_fieldAddr, ↓ex_load, ↓ex_binOp, ↓ex_move, ↓ex_guard, ↓ex_call, ↓AF.ev_func, ↓ex_unOp, ↓ex_pick, ↓AF.ev_bool, ↓ex_len, aFieldAddr, aload, partOf, aBin, aBinV, aUn, aLen, frame0, beq_bytes, int_bne, int_beq, DImage.row, int_bne, Int.natCast_inj, Int.ofNat_inj, h0, h1]
           refine callK.of (sameFlats _ c d x.codes y.codes (by omega) hx4) ?_
           rintro _ _ ⟨rfl, rfl⟩
           simp [↓put_at, ↓AF.ev_tmp, ↓ex_cons, ↓ex_nil, ↓ex_fieldAddr, ↓ex_load, ↓ex_binOp, ↓ex_move, ↓ex_guard, ↓ex_call, ↓AF.ev_func, ↓ex_unOp, ↓ex_pick, ↓AF.ev_bool, ↓ex_len, aFieldAddr, aload, partOf, aBin, aBinV, aUn, aLen, frame0, beq_bytes, int_bne, int_beq, DImage.row, int_bne, Int.natCast_inj, Int.ofNat_inj, h0, h1, h2, h3]
           refine key _ _ ?_ ?_ ?_ ?_ ?_ ?_
           · simp
           · simp
           · simp [h0, h1, h2, h3]
           · simp [DImage.row, h0, h1, h2, h3]
           · simp [DImage.row]
           · exact (by repeat (first | exact AS.Ext.refl _ | refine AS.Ext.kill (by simp) ?_ | refine AS.Ext.bump ?_ | refine AS.Ext.setBox (by simp) ?_))
       · simp [↓put_at, ↓AF.ev_tmp, ↓ex_cons, ↓ex_nil, ↓ex_fieldAddr, ↓ex_load, ↓ex_binOp, ↓ex_move, ↓ex_guard, ↓ex_call, ↓AF.ev_func, ↓ex_unOp, ↓ex_pick, ↓AF.ev_bool, ↓ex_len, aFieldAddr, aload, partOf, aBin, aBinV, aUn, aLen, frame0, beq_bytes, int_bne, int_beq, DImage.row, int_bne, Int.natCast_inj, Int.ofNat_inj, h0]
         refine callK.of (eqCells _ c d x.cells y.cells (by omega)) ?_
         rintro _ _ ⟨rfl, rfl⟩
         simp [↓put_at, ↓AF.ev_tmp, ↓ex_cons, ↓ex_nil, ↓ex_fieldAddr, ↓ex_load, ↓ex_binOp, ↓ex_move, ↓ex_guard, ↓ex_call, ↓AF.ev_func, ↓ex_unOp, ↓ex_pick, ↓AF.ev_bool, ↓ex_len, aFieldAddr, aload, partOf, aBin, aBinV, aUn, aLen, frame0, beq_bytes, int_bne, int_beq, DImage.row, int_bne, Int.natCast_inj, Int.ofNat_inj, h0, h1]
         refine callK.of (sameFlats _ c d x.codes y.codes (by omega) hx4) ?_
         rintro _ _ ⟨rfl, rfl⟩
         simp [↓put_at, ↓AF.ev_tmp, ↓ex_cons, ↓ex_nil, ↓ex_fieldAddr, ↓ex_load, ↓ex_binOp, ↓ex_move, ↓ex_guard, ↓ex_call, ↓AF.ev_func, ↓ex_unOp, ↓ex_pick, ↓AF.ev_bool, ↓ex_len, aFieldAddr, aload, partOf, aBin, aBinV, aUn, aLen, frame0, beq_bytes, int_bne, int_beq, DImage.row, int_bne, Int.natCast_inj, Int.ofNat_inj, h0, h1, h2]
         refine key _ _ ?_ ?_ ?_ ?_ ?_ ?_
         · simp
         · simp
         · simp [h0, h1, h2]
         · simp [DImage.row, h0, h1, h2]
         · simp [DImage.row]
         · exact (by repeat (first | exact AS.Ext.refl _ | refine AS.Ext.kill (by simp) ?_ | refine AS.Ext.bump ?_ | refine AS.Ext.setBox (by simp) ?_))
     · simp [↓put_at, ↓AF.ev_tmp, ↓ex_cons, ↓ex_nil, ↓ex_fieldAddr, ↓ex_load, ↓ex_binOp, ↓ex_move, ↓ex_guard, ↓ex_call, ↓AF.ev_func, ↓ex_unOp, ↓ex_pick, ↓AF.ev_bool, ↓ex_len, aFieldAddr, aload, partOf, aBin, aBinV, aUn, aLen, frame0, beq_bytes, int_bne, int_beq, DImage.row, int_bne, Int.natCast_inj, Int.ofNat_inj, h0]
       refine callK.of (eqCells _ c d x.cells y.cells (by omega)) ?_
       rintro _ _ ⟨rfl, rfl⟩
       simp [↓put_at, ↓AF.ev_tmp, ↓ex_cons, ↓ex_nil, ↓ex_fieldAddr, ↓ex_load, ↓ex_binOp, ↓ex_move, ↓ex_guard, ↓ex_call, ↓AF.ev_func, ↓ex_unOp, ↓ex_pick, ↓AF.ev_bool, ↓ex_len, aFieldAddr, aload, partOf, aBin, aBinV, aUn, aLen, frame0, beq_bytes, int_bne, int_beq, DImage.row, int_bne, Int.natCast_inj, Int.ofNat_inj, h0, h1]
       refine key _ _ ?_ ?_ ?_ ?_ ?_ ?_
       · simp
       · simp
       · simp [h0, h1]
       · simp [DImage.row, h0, h1]
       · simp [DImage.row]
       · exact (by repeat (first | exact AS.Ext.refl _ | refine AS.Ext.kill (by simp) ?_ | refine AS.Ext.bump ?_ | refine AS.Ext.setBox (by simp) ?_))
   · simp [↓put_at, ↓AF.ev_tmp, ↓ex_cons, ↓ex_nil, ↓ex_fieldAddr, ↓ex_load, ↓ex_binOp, ↓ex_move, ↓ex_guard, ↓ex_call, ↓AF.ev_func, ↓ex_unOp, ↓ex_pick, ↓AF.ev_bool, ↓ex_len, aFieldAddr, aload, partOf, aBin, aBinV, aUn, aLen, frame0, beq_bytes, int_bne, int_beq, DImage.row, int_bne, Int.natCast_inj, Int.ofNat_inj, h0]
     refine key _ _ ?_ ?_ ?_ ?_ ?_ ?_
     · simp
     · simp
     · simp [h0]
     · simp [DImage.row, h0]
     · simp [DImage.row]
     · exact (by repeat (first | exact AS.Ext.refl _ | refine AS.Ext.kill (by simp) ?_ | refine AS.Ext.bump ?_ | refine AS.Ext.setBox (by simp) ?_))
 intro F2 H2 f2 f3 fl b1 b2 hext
 refine hK2 _ _ ?_
 try clear hK2 K2
 refine T_cond (t := !decide (x.name = y.name ∧ x.cells = y.cells ∧ x.codes = y.codes ∧ x.jobs.length = y.jobs.length)) ?_ (fun c0 => ?_) (fun c0 => ?_)
 simpa using fl
 refine T_sr fun K3 hK3 => ?_
 simp [↓put_at, ↓AF.ev_tmp, ↓ex_cons, ↓ex_nil, ↓ex_assign, ↓AF.ev_bool, frame0]
 refine hK3 _ _ ?_
 try clear hK3 K3
 refine T_ret ?_
 try simp only [thenK_ret, blockT_ret, loopT_ret, jumpT_ret]
 have c0 : ¬ (x.name = y.name ∧ x.cells = y.cells ∧ x.codes = y.codes ∧ x.jobs.length = y.jobs.length) := fun hp => by rw [decide_eq_true hp] at c0; simp at c0
 refine owes_one (.inr rfl) hwf rfl ?_ hext (by simp) (by simp)
 simp
 intro e; subst e; simp at c0
 have c0 : x.name = y.name ∧ x.cells = y.cells ∧ x.codes = y.codes ∧ x.jobs.length = y.jobs.length := Decidable.byContradiction fun hp => by rw [decide_eq_false hp] at c0; simp at c0
 refine T_skip ?_
 try simp only [tN, bN, lN]
 refine hK1 _ _ ?_
 try clear hK1 K1
 refine T_seqk fun K4 hK4 => ?_
 refine T_sr fun K5 hK5 => ?_
 simp [↓put_at, ↓AF.ev_tmp, ↓ex_cons, ↓ex_nil, ↓ex_fieldAddr, ↓ex_load, ↓ex_len, ↓ex_move, ↓AF.ev_int, aFieldAddr, aload, partOf, aLen, frame0, f2, f3, b1, b2, DImage.row]
 refine hK5 _ _ ?_
 try clear hK5 K5
 refine T_block ?_
 refine T_loop (fun k F H' => ∃ i : Nat, k = x.jobs.length - i ∧ i ≤ x.jobs.length ∧ F 2 = .ptr H.next 1 0 0 ∧ F 3 = .ptr (H.next + 1) 1 0 0 ∧ F 38 = pi x.jobs.length ∧ F 39 = pi i ∧ H2 = H' ∧ x.jobs.take i = y.jobs.take i) (x.jobs.length) ?_ ?_
 refine ⟨0, ?_⟩
 simp [f2, f3]
 rintro k F H' ⟨i, rfl, hi, h2, h3, h38, h39, rfl, htake⟩
 refine T_sr fun K6 hK6 => ?_
 simp [↓put_at, ↓AF.ev_tmp, ↓ex_cons, ↓ex_nil, ↓ex_binOp, aBin, aBinV, frame0, h2, h3, h38, h39]
 refine hK6 _ _ ?_
 try clear hK6 K6
 refine T_seqk fun K7 hK7 => ?_
 refine T_cond (by first | rfl | exact h2 | exact h3 | exact h38 | exact h39) (fun c1 => ?_) (fun c1 => ?_)
 have hlt : i < x.jobs.length := by simpa using c1
 refine T_skip ?_
 try simp only [tN, bN, lN]
 refine hK7 _ _ ?_
 try clear hK7 K7
 refine T_seqk fun K8 hK8 => ?_
 refine T_block ?_
 refine T_sr fun K9 hK9 => ?_
 simp [↓put_at, ↓AF.ev_tmp, ↓ex_cons, ↓ex_nil, ↓ex_move, ↓ex_assign, frame0, h2, h3, h38, h39]
 refine hK9 _ _ ?_
 try clear hK9 K9
 refine T_seqk fun K10 hK10 => ?_
 refine T_draw (fun id => id = H.next ∨ id = H.next + 1) [] (.free 0 (.free 1 (.free 2 (.free 3 (.free 4 (.free 5 (.free 6 (.free 7 (.free 8 (.free 9 (.free 10 (.free 11 .done)))))))))))) mix ?_ ?_ ?_
 kernel_rfl
 kernel_rfl
 have hlt' : i < y.jobs.length := by omega
 simp [↓put_at, ↓AF.ev_tmp, ↓wk_free, ↓wk_sole, ↓wk_done, ↓wanted_none, Keeps, Same, ↓wk_fieldAddr, ↓wk_load, ↓wk_move, ↓wk_indexAddr, ↓wk_call, ↓AF.ev_func, ↓wk_unOp, aFieldAddr, aload, aIndexAddr, aUn, frame0, h2, h3, h38, h39, b1, b2, part_jobs, sl_get (map_get (f := DJob.row c) hlt), sl_get (map_get (f := DJob.row d) hlt'), part_job]
 refine askK.of _ ?_ (fun H' hS => sameJobP H' c d x.jobs[i] y.jobs[i] (by have := (hx5 _ (List.getElem_mem hlt)).1; omega) (by have := (hx5 _ (List.getElem_mem hlt)).2; omega)) ?_
 intro H' hS; first | rfl | (rw [hS.2])
 simp [↓put_at, ↓AF.ev_tmp, ↓wk_free, ↓wk_sole, ↓wk_done, ↓wanted_none, Keeps, Same, ↓wk_fieldAddr, ↓wk_load, ↓wk_move, ↓wk_indexAddr, ↓wk_call, ↓AF.ev_func, ↓wk_unOp, aFieldAddr, aload, aIndexAddr, aUn, frame0, h2, h3, h38, h39, b1, b2, part_jobs, sl_get (map_get (f := DJob.row c) hlt), sl_get (map_get (f := DJob.row d) hlt'), part_job]
 refine hK10 _ _ ?_
 try clear hK10 K10
 refine T_cond (by first | rfl | exact h2 | exact h3 | exact h38 | exact h39) (fun c2 => ?_) (fun c2 => ?_)
 refine T_sr fun K11 hK11 => ?_
 simp [↓put_at, ↓AF.ev_tmp, ↓ex_cons, ↓ex_nil, ↓ex_assign, ↓AF.ev_bool, frame0, h2, h3, h38, h39]
 refine hK11 _ _ ?_
 try clear hK11 K11
 refine T_ret ?_
 try simp only [thenK_ret, blockT_ret, loopT_ret, jumpT_ret]
 refine owes_one (.inr rfl) hwf rfl ?_ hext (by simp) (by simp)
 simp
 intro e; subst e; simp at c2
 have heq : x.jobs[i] = y.jobs[i] := by simpa using c2
 refine T_skip ?_
 try simp only [tN, bN, lN]
 refine hK8 _ _ ?_
 try clear hK8 K8
 refine T_rg ?_
 simp [↓put_at, ↓AF.ev_tmp, ↓ex_cons, ↓ex_nil, ↓ex_binOp, ↓AF.ev_int, ↓ex_move, aBin, aBinV, frame0, h2, h3, h38, h39]
 refine ⟨x.jobs.length - (i + 1), by omega, i + 1, rfl, by omega, ?_⟩
 simp [h2, h3, h38, h39]
 rw [wrap_i64 (by omega) (by omega)]
 refine ⟨rfl, ?_⟩
 rw [List.take_succ_eq_append_getElem hlt, List.take_succ_eq_append_getElem hlt', htake, heq]
 have hge : x.jobs.length ≤ i := by simpa using c1
 refine T_exit ?_
 try simp only [tE, bE, lE, if_true, Nat.reduceEqDiff, if_false, reduceIte, tN, bN, lN]
 refine hK4 _ _ ?_
 try clear hK4 K4
 refine T_sr fun K12 hK12 => ?_
 simp [↓put_at, ↓AF.ev_tmp, ↓ex_cons, ↓ex_nil, ↓ex_assign, ↓AF.ev_bool, frame0, h2, h3, h38, h39]
 refine hK12 _ _ ?_
 try clear hK12 K12
 refine T_ret ?_
 try simp only [thenK_ret, blockT_ret, loopT_ret, jumpT_ret]
 refine owes_one (.inr rfl) hwf rfl ?_ hext (by simp) (by simp)
 simp
 rw [List.take_of_length_le hge, List.take_of_length_le (by omega)] at htake
 exact DImage.ext c0.1 c0.2.1 c0.2.2.1 htake
end Go.Abs
namespace Go.Abs
set_option autoImplicit false
set_option linter.all false
structure DCell.Typed (c : DCell) : Prop where
  kind : ok8 c.kind
  lo : ok64 c.lo
  hi : ok64 c.hi
  max : ok64 c.max
  init : c.init.Ok
  dir : ok64 c.dir
  addr : okText c.addr
structure DImage.Typed (m : DImage) : Prop where
  name : okText m.name
  ncells : m.cells.length < 2 ^ 62
  cells : ∀ c ∈ m.cells, c.Typed
  ncodes : m.codes.length < 2 ^ 62
  codes : ∀ f ∈ m.codes, f.Ok
  njobs : m.jobs.length < 2 ^ 62
  jobs : ∀ j ∈ m.jobs, j.Ok
theorem DImage.Typed.ok {m : DImage} (h : m.Typed) (hc : checkE m = 0) : m.Ok := by
 obtain ⟨_, _, _, _, hcell, _, _⟩ := check_ok hc
 refine ⟨h.name, by have := h.ncells; omega, fun c hm => ?_, by have := h.ncodes; omega, h.codes, by have := h.njobs; omega, h.jobs⟩
 have ht := h.cells c hm
 obtain ⟨i, hi, rfl⟩ := nth_of_mem hm
 have hE := hcell i hi
 have hB : cellB (nth m.cells (i : Int)) (addrs m i) = true := by
   unfold cellE at hE
   by_cases e : cellB (nth m.cells (i : Int)) (addrs m i) = true
   · exact e
   · rw [if_neg e] at hE; cases hE
 obtain ⟨_, _, d0, d2⟩ := cellB_ok hB
 exact ⟨ht.kind, ht.lo, ht.hi, ht.max, ht.init, ⟨d0, by omega⟩, ht.addr⟩
theorem encFile_length (m : DImage) : (encFile m).length = (encImage m).length + 4 := by
 unfold encFile; rw [List.length_append, le4_length]
theorem encImage_len (m : DImage) : (encImage m).length = 4 + (encBody m).length := by
 rw [encImage_body, List.length_append]; rfl
theorem body_app {a s : List UInt8} (h : s.length = 4) : body (a ++ s) = a := by
 unfold body
 rw [List.length_append, h, show a.length + 4 - 4 = a.length by omega, List.take_left']
 rfl
theorem body_file (m : DImage) : body (encFile m) = encImage m := body_app (le4_length _)
theorem encBody_pos (m : DImage) : 8 ≤ (encBody m).length := by
 unfold encBody; simp only [List.length_append, encText_len']; omega
theorem rdAll_of {b : List UInt8} {m : DImage} (hb : body b = encImage m) (hok : m.Ok) : rdAll b = (m, { rs0 with at' := (encImage m).length }) := by
 unfold rdAll
 rw [hb]
 have hh : Has (encImage m) rs0.at' (encBody m) := by
   have h1 : Has (encImage m) 0 ([114, 108, 121, 1] ++ encBody m) := by rw [← encImage_body]; exact Has.whole
   exact (Has.app.1 h1).2
 rw [law_image.full (encImage m) rs0 m rfl hok hh, encImage_len]
 rfl
theorem encFile_dec {m : DImage} (hok : m.Ok) (hc : checkE m = 0) (hl : (encFile m).length ≤ 4194304) : DecOk (encFile m) ∧ (rdAll (encFile m)).1 = m := by
 have hr := rdAll_of (body_file m) hok
 have h8 := encBody_pos m
 have hlen := encImage_len m
 have hlen2 := encFile_length m
 refine ⟨⟨⟨hl, by omega, ?_, ?_⟩, ?_, ?_, ?_⟩, by rw [hr]⟩
 unfold encFile; rw [encImage_body]; rfl
 have e : (encFile m).length - 4 = (encImage m).length := by omega
 rw [e]
 unfold encFile
 rw [List.drop_left' rfl, List.take_left' rfl]
 rw [hr]; rfl
 rw [hr, body_file]
 rw [hr]; exact hc
theorem dec_parts {b : List UInt8} (h : FrameOk b) : b = body b ++ le4 (crc (body b)) := by
 unfold body
 rw [← h.2.2.2, List.take_append_drop]
theorem dec_enc {b : List UInt8} (h : DecOk b) : (rdAll b).1.Ok ∧ encImage (rdAll b).1 = body b ∧ encFile (rdAll b).1 = b := by
 obtain ⟨hf, he, hat, hc⟩ := h
 have h8 := hf.2.1
 have hbl : (body b).length = b.length - 4 := by unfold body; simp
 have h4 : rs0.at' ≤ (body b).length := by rw [hbl]; unfold rs0; simp; omega
 obtain ⟨hok, hh, hs⟩ := law_image.sound (body b) rs0 rfl h4 he
 have hok' : (rdAll b).1.Ok := hok
 have hat' : 4 + (encBody (rdAll b).1).length = (body b).length := by
   have e1 : (rdAll b).2.at' = 4 + (encBody (rdAll b).1).length := by
     show (rdImage (body b) rs0).2.at' = _
     rw [hs]; rfl
   omega
 have hm : (body b).take 4 = magicB := by
   unfold body
   rw [List.take_take, show min 4 (b.length - 4) = 4 by omega]; exact hf.2.2.1
 have hd : (body b).drop 4 = encBody (rdAll b).1 := by
   have h2 : ((body b).drop 4).take (encBody (rdAll b).1).length = encBody (rdAll b).1 := hh.2
   rw [← h2, List.take_of_length_le (by rw [List.length_drop]; omega)]
 have hi : encImage (rdAll b).1 = body b := by
   rw [encImage_body, ← hd]
   have := List.take_append_drop 4 (body b)
   rw [hm] at this
   exact this
 refine ⟨hok', hi, ?_⟩
 unfold encFile
 rw [hi]
 exact (dec_parts hf).symm
theorem no_prefix {m m' : DImage} (h : m.Ok) (h' : m'.Ok) {r : List UInt8} (e : encImage m = encImage m' ++ r) : r = [] := by
 have h1 : Has (encImage m) 4 (encBody m) := by
   have h1 : Has (encImage m) 0 ([114, 108, 121, 1] ++ encBody m) := by rw [← encImage_body]; exact Has.whole
   exact (Has.app.1 h1).2
 have h2 : Has (encImage m) 4 (encBody m') := by
   have h3 : Has (encImage m) 0 ([114, 108, 121, 1] ++ (encBody m' ++ r)) := by
     rw [← List.append_assoc, ← encImage_body, ← e]; exact Has.whole
   exact (Has.app.1 (Has.app.1 h3).2).1
 have r1 := law_image.full (encImage m) rs0 m rfl h h1
 have r2 := law_image.full (encImage m) rs0 m' rfl h' h2
 rw [r1] at r2
 have hm : m = m' := congrArg Prod.fst r2
 subst hm
 have := congrArg List.length e
 rw [List.length_append] at this
 exact List.length_eq_zero_iff.1 (by omega)
theorem turned {m : DImage} (hok : m.Ok) (hc : checkE m = 0) (hl : (encFile m).length ≤ 4194304) {k : Nat} (hk : k < (encFile m).length) (x : UInt8) : DecOk ((encFile m).set k x) ↔ x = (encFile m)[k] := by
 constructor
 intro h
 obtain ⟨hf, -⟩ := h
 have hp := dec_parts hf
 have hL := encFile_length m
 have hd : ((encFile m).set k x).drop (encImage m).length = le4 (crc (body ((encFile m).set k x))) := by
   have h4 := hf.2.2.2
   rw [List.length_set, hL, show (encImage m).length + 4 - 4 = (encImage m).length by omega] at h4
   unfold body
   rw [List.length_set, hL, show (encImage m).length + 4 - 4 = (encImage m).length by omega]
   exact h4
 rcases Nat.lt_or_ge k (encImage m).length with hlt | hge
 have hb : body ((encFile m).set k x) = (encImage m).set k x := by
   unfold body
   rw [List.length_set, hL, show (encImage m).length + 4 - 4 = (encImage m).length by omega]
   unfold encFile
   rw [List.set_append_left _ _ hlt, List.take_left' (by simp)]
 rw [hb] at hd
 unfold encFile at hd
 rw [List.set_append_left _ _ hlt, List.drop_left' (by simp)] at hd
 have hcrc := le4_inj hd
 have hx := crc_set hlt hcrc.symm
 rw [hx]
 simp only [encFile]
 rw [List.getElem_append_left hlt]
 have hb : body ((encFile m).set k x) = encImage m := by
   unfold body
   rw [List.length_set, hL, show (encImage m).length + 4 - 4 = (encImage m).length by omega]
   unfold encFile
   rw [List.set_append_right _ _ hge, List.take_left' rfl]
 rw [hb] at hd
 unfold encFile at hd
 rw [List.set_append_right _ _ hge, List.drop_left' rfl] at hd
 have hk2 : k - (encImage m).length < (le4 (crc (encImage m))).length := by rw [le4_length]; omega
 have h1 : ((le4 (crc (encImage m))).set (k - (encImage m).length) x)[k - (encImage m).length]? = some x := by
   rw [List.getElem?_set_self hk2]
 rw [hd, List.getElem?_eq_getElem hk2] at h1
 have hx : (le4 (crc (encImage m)))[k - (encImage m).length] = x := Option.some.inj h1
 simp only [encFile]
 rw [List.getElem_append_right hge, hx]
 intro e
 subst e
 rw [List.set_getElem_self]
 exact (encFile_dec hok hc hl).1
theorem begins {m : DImage} (hok : m.Ok) (hc : checkE m = 0) {k : Nat} (hk : k < (encFile m).length) : ¬ DecOk ((encFile m).take k) := by
 intro h
 obtain ⟨hok', hi, -⟩ := dec_enc h
 have h8 := h.1.2.1
 have hL := encFile_length m
 have hlk : ((encFile m).take k).length = k := by simp; omega
 have hb : body ((encFile m).take k) = (encImage m).take (k - 4) := by
   unfold body
   rw [hlk, List.take_take, show min (k - 4) k = k - 4 by omega]
   unfold encFile
   rw [List.take_append_of_le_length (by omega)]
 rw [hb] at hi
 have e : encImage m = encImage (rdAll ((encFile m).take k)).1 ++ (encImage m).drop (k - 4) := by rw [hi, List.take_append_drop]
 have hr := congrArg List.length (no_prefix hok hok' e)
 rw [List.length_drop] at hr
 simp at hr
 omega
theorem begins_more {m : DImage} (hok : m.Ok) (hc : checkE m = 0) (hl : (encFile m).length ≤ 4194304) {r : List UInt8} : DecOk (encFile m ++ r) ↔ r = [] := by
 constructor
 intro h
 obtain ⟨hok', hi, -⟩ := dec_enc h
 have hL := encFile_length m
 have hb : body (encFile m ++ r) = encImage m ++ (le4 (crc (encImage m)) ++ r).take r.length := by
   unfold body
   rw [List.length_append, hL, show (encImage m).length + 4 + r.length - 4 = (encImage m).length + r.length by omega]
   unfold encFile
   rw [List.append_assoc, List.take_append, List.take_of_length_le (by omega), show (encImage m).length + r.length - (encImage m).length = r.length by omega]
 rw [hb] at hi
 have hr := congrArg List.length (no_prefix hok' hok hi)
 rw [List.length_take, List.length_append, le4_length, List.length_nil] at hr
 exact List.length_eq_zero_iff.1 (by omega)
 rintro rfl
 rw [List.append_nil]
 exact (encFile_dec hok hc hl).1
end Go.Abs
namespace Go.Abs
open Go.Proofs
set_option autoImplicit false
set_option linter.all false
def imgM : DImage := ⟨⟨#[77]⟩, [], [], []⟩
theorem checkM : checkE imgM = 0 := by decide +kernel
theorem lenM : (encFile imgM).length = 41 := by
 unfold encFile; rw [List.length_append, le4_length, encImage_length]; rfl
theorem encE_M : encE imgM = 0 := by unfold encE; rw [if_pos checkM, if_neg (by rw [lenM]; decide)]
theorem encB_M : encB imgM = encFile imgM := by unfold encB; rw [if_pos checkM, if_neg (by rw [lenM]; decide)]
theorem getM0 : (encFile imgM)[0]? = some 114 := by
 unfold encFile; rw [List.getElem?_append_left (by rw [encImage_length]; decide)]; decide +kernel
theorem getM12 : (encFile imgM)[12]? = some 77 := by
 unfold encFile; rw [List.getElem?_append_left (by rw [encImage_length]; decide)]; decide +kernel
theorem rowM (c : Nat) : imgM.row c = [ps ⟨#[77]⟩, .nilS, .nilS, .nilS] := rfl
theorem encodeM (H : AS) : ACalls Tryz.prog 8 [.agg [ps ⟨#[77]⟩, .nil, .nil, .nil]] H fun q H' => q = .tuple [PV.sl H.color 1 ((encFile imgM).map brow), pi 0] ∧ H' = H := by
  have h := encodeIs H 0 imgM (by decide) (by decide) (by decide) (fun f hf => by cases hf) (fun x hx => by cases hx)
  rw [encE_M, encB_M] at h
  refine h.of_nil fun G vs hall => ?_
  cases vs with
  | nil => exact hall.elim
  | cons v vs =>
    refine ⟨?_, hall.2⟩
    obtain ⟨h1, -⟩ := hall
    cases h1 with
    | @agg _ us hl ho hx =>
      rw [rowM]
      refine .agg hl ho fun j p u hp hu => ?_
      match j with
      | 0 => exact hx 0 _ _ (by simpa using hp) hu
      | 1 => simp at hp; subst hp; exact rep_nilS (c := 0) (sz := 11) (hx 1 _ _ rfl hu)
      | 2 => simp at hp; subst hp; exact rep_nilS (c := 0) (sz := 11) (hx 2 _ _ rfl hu)
      | 3 => simp at hp; subst hp; exact rep_nilS (c := 0) (sz := 11) (hx 3 _ _ rfl hu)
      | j + 4 => simp at hp
theorem sl_at {d : Nat} {l : List UInt8} {b : UInt8} {n : Int} {i : Nat} (hn : n = i) (h : l[i]? = some b) : aindex 1 (PV.sl d 1 (l.map brow)) n = some (.rptr d (brow b)) := by
 subst hn
 exact sl_get (i := i) (by simp [h])
theorem bin_eq8 (P : Program) (t : TypeId) (a b : UInt8) : aBin P .eql t (b8 a) (b8 b) = some (pb (decide (a = b))) := by
 show (aBinV .eql (.int .u8 a.toNat) (.int .u8 b.toNat)).map PV.val = _
 simp only [aBinV, Option.map_some, int_beq, Option.some.injEq, if_true]
 by_cases e : a = b
 simp [e]
 have : ¬ a.toNat = b.toNat := fun h => e (UInt8.toNat_inj.1 h)
 have h2 : ¬ (a.toNat : Int) = (b.toNat : Int) := by omega
 simp [e, h2]
theorem eqM0 : aBin Tryz.prog .eql 5 (b8 114) (.val (.int .u8 114)) = some (pb true) := bin_eq8 _ _ 114 114
theorem eqM12 : aBin Tryz.prog .eql 5 (b8 77) (.val (.int .u8 77)) = some (pb true) := bin_eq8 _ _ 77 77
theorem eqI (t : TypeId) (a b : Int) : aBin Tryz.prog .eql t (pi a) (pi b) = some (pb (decide (a = b))) := by simp [aBin, aBinV, int_beq]
set_option maxRecDepth 100000 in
theorem cloneBytes (H : AS) (c : Nat) (b : UInt8) (bs : List UInt8) (hn : (b :: bs).length ≤ 2 ^ 47) : ACalls Tryz.prog 10 [.slice c 1 (brow b :: bs.map brow)] H fun q H' => q = .msl H.next (b :: bs).length 1 ∧ H' = (H.setBox H.next ((b :: bs).map brow)).bump 1 := by
 refine ACalls_open Tryz.func10 rfl (by kernel_rfl) (by simp) fun hwf hbel => ?_
 have hr : ∀ x ∈ brow b :: bs.map brow, ∀ p ∈ x, Frozen p := by
   have := frozen_brow (b :: bs)
   simpa using this
 refine T_sr fun K0 hK0 => ?_
 simp [↓put_at, ↓AF.ev_tmp, ↓ex_cons, ↓ex_nil, ↓ex_assign, ↓AF.ev_slice, frame0]
 refine hK0 _ _ ?_
 try clear hK0 K0
 refine T_seqk fun K1 hK1 => ?_
 refine T_sr fun K2 hK2 => ?_
 simp [↓put_at, ↓AF.ev_tmp, ↓ex_cons, ↓ex_nil, ↓ex_move, ↓ex_binOp, ↓AF.ev_slice, aBin, aBinV, frame0, aNilTest, u28]
 refine hK2 _ _ ?_
 try clear hK2 K2
 refine T_cond (rfl) (fun c0 => ?_) (fun c0 => ?_)
 cases c0 --done
 refine T_skip ?_
 try simp only [tN, bN, lN]
 refine hK1 _ _ ?_
 try clear hK1 K1
 refine T_sr fun K3 hK3 => ?_
 simp [↓put_at, ↓AF.ev_tmp, ↓ex_cons, ↓ex_nil, ↓ex_buildSlice, ↓ex_move, ↓ex_append, ↓ex_assign, abuildSlice, frame0, abuildSlice, appendK_eq, aappend, srcOf, frzR_id hr, setBox_setBox, bump_setBox]
 refine ⟨.inl (by simpa using hn), ?_⟩
 refine hK3 _ _ ?_
 try clear hK3 K3
 refine T_ret ?_
 try simp only [thenK_ret, blockT_ret, loopT_ret, jumpT_ret]
 exact owesO_one (.inr rfl) rfl ⟨rfl, rfl⟩
set_option maxRecDepth 100000 in
theorem awakeIs (H : AS)  : ACalls Tryz.prog 9 [] H fun q H' => q = pb true ∧ H' = H := by
 refine ACalls_intro Tryz.func9 rfl (by kernel_rfl) (by simp) fun hwf hbel => ?_
 refine T_sr fun K0 hK0 => ?_
 simp [↓put_at, ↓AF.ev_tmp, ↓ex_cons, ↓ex_nil, ↓ex_assign, ↓AF.ev_bool, frame0]
 refine hK0 _ _ ?_
 try clear hK0 K0
 refine T_sr fun K1 hK1 => ?_
 simp [↓put_at, ↓AF.ev_tmp, ↓ex_cons, ↓ex_nil, ↓ex_build, ↓AF.ev_string, ↓ex_call, ↓AF.ev_func, ↓ex_move, ↓ex_extract, ↓ex_assign, aBuild, aBuild.go, splice, aExtract, frame0]
 refine callK.of (encodeM _) ?_
 rintro _ Hz ⟨rfl, hz⟩
 subst Hz
 simp [↓put_at, ↓AF.ev_tmp, ↓ex_cons, ↓ex_nil, ↓ex_build, ↓AF.ev_string, ↓ex_call, ↓AF.ev_func, ↓ex_move, ↓ex_extract, ↓ex_assign, aBuild, aBuild.go, splice, aExtract, frame0]
 refine hK1 _ _ ?_
 try clear hK1 K1
 refine T_sr fun K2 hK2 => ?_
 simp [↓put_at, ↓AF.ev_tmp, ↓ex_cons, ↓ex_nil, ↓ex_move, ↓ex_binOp, ↓AF.ev_int, ↓ex_guard, ↓ex_len, ↓ex_pick, ↓AF.ev_bool, ↓ex_indexAddr, ↓ex_load, ↓ex_assign, aLen, aIndexAddr, aload, frame0, lenM, int_beq, aIndexAddr, sl_at (n := 0) rfl getM0, sl_at (n := 12) rfl getM12, part_byte, eqM0, eqM12, eqI]
 refine hK2 _ _ ?_
 try clear hK2 K2
 refine T_ret ?_
 try simp only [thenK_ret, blockT_ret, loopT_ret, jumpT_ret]
 exact owes_one (.inr rfl) hwf rfl rfl (.refl _) (by simp) (by simp)
end Go.Abs
namespace Go.Abs
open Go.Proofs
set_option autoImplicit false
set_option linter.all false
theorem cloneList (H : AS) (c : Nat) (l : List UInt8) (hne : l ≠ []) (hn : l.length ≤ 2 ^ 47) : ACalls Tryz.prog 10 [PV.sl c 1 (l.map brow)] H fun q H' => q = .msl H.next l.length 1 ∧ H' = (H.setBox H.next (l.map brow)).bump 1 := by
  cases l with
  | nil => exact absurd rfl hne
  | cons b bs => exact cloneBytes H c b bs hn
theorem decodeOwn (H : AS) (lo : Nat) (p : PV) (bs : List UInt8) (hout : OutIs lo H p 1 (bs.map brow)) (hb : bs.length < 2 ^ 62) : ACalls Tryz.prog 11 [p] H fun q H'' => (∃ (m : DImage) (a e : Int), q = .tuple [.agg (m.row H.color), pi a, pi e] ∧ (e = 0 ↔ DecOk bs) ∧ (e = 0 → m = (rdAll bs).1 ∧ a = 0)) ∧ Above lo H H'' ∧ H''.color = H.color ∧ H''.next = H.next := by
 refine ACalls.frz_out hout fun H1 h1 h2 h3 => (decodeIs H1 bs hb H.color).mono ?_
 rintro q H'' ⟨⟨m, a, e, h, h'⟩, rfl⟩
 rw [h3] at h
 exact ⟨⟨m, a, e, h, h'⟩, h1, h3, h2⟩
structure DImage.In (m : DImage) : Prop where
  typed : m.Typed
  sizes : ∀ f ∈ m.codes, f.ops.length < 2 ^ 62 ∧ f.loops.length < 2 ^ 62
  addr : ∀ x ∈ m.cells, x.addr.size ≤ 281474976710656
theorem enc_ok {m : DImage} (h : m.In) (hE : encE m = 0) : checkE m = 0 ∧ (encFile m).length ≤ 4194304 ∧ encB m = encFile m ∧ m.Ok := by
 unfold encE at hE
 by_cases hc : checkE m = 0
 rw [if_pos hc] at hE
 by_cases hl : 4194304 < (encFile m).length
 rw [if_pos hl] at hE; cases hE
 refine ⟨hc, by omega, ?_, h.typed.ok hc⟩
 unfold encB; rw [if_pos hc, if_neg hl]
 rw [if_neg hc] at hE; exact absurd hE hc
theorem encFile_ne (m : DImage) : encFile m ≠ [] := fun h => by
  have := encFile_length m
  rw [h] at this; cases this
theorem brow_len (b : UInt8) : (brow b).length = 1 := rfl
theorem splice_b8 (b x : UInt8) : splice (brow b) 0 [b8 x] = brow x := rfl
theorem eqB (a b : Bool) : aBin Tryz.prog .eql 4 (pb a) (pb b) = some (pb (a == b)) := by
 have h : Tryz.prog.underlying 4 = some .bool := by kernel_rfl
 simp [aBin, h]
set_option maxRecDepth 100000 in
theorem lawTurned (H : AS) (c : Nat) (m : DImage) (hin : m.In) (a : Nat) (ha : a < 18446744073709551616) (x : UInt8) : ACalls Tryz.prog 3 [.agg (m.row c), .val (.int .u64 (a : Int)), b8 x] H fun q H' => q = pb true ∧ H' = H := by
 refine ACalls_intro Tryz.func3 rfl (by kernel_rfl) (by simp) fun hwf hbel => ?_
 refine T_sr fun K0 hK0 => ?_
 simp [↓put_at, ↓AF.ev_tmp, ↓ex_cons, ↓ex_nil, ↓ex_box, ↓ex_assign, ↓AF.ev_bool, abox, frame0, abox_image]
 refine hK0 _ _ ?_
 try clear hK0 K0
 refine T_mid (fun F H' => F 1 = .val (.int .u64 (a : Int)) ∧ F 2 = b8 x ∧ F 7 = PV.sl H.color 1 ((encB m).map brow) ∧ F 8 = pi (encE m) ∧ H.Ext H') ?_ ?_
 refine T_rg ?_
 simp [↓put_at, ↓AF.ev_tmp, ↓ex_cons, ↓ex_nil, ↓ex_load, ↓ex_call, ↓AF.ev_func, ↓ex_move, ↓ex_extract, ↓ex_assign, aload, partOf, aExtract, frame0, DImage.row]
 refine callK.of (encodeIs _ c m hin.typed.ncells hin.typed.ncodes hin.typed.njobs hin.sizes hin.addr) ?_
 rintro _ Hz ⟨rfl, hz⟩
 subst Hz
 simp [↓put_at, ↓AF.ev_tmp, ↓ex_cons, ↓ex_nil, ↓ex_load, ↓ex_call, ↓AF.ev_func, ↓ex_move, ↓ex_extract, ↓ex_assign, aload, partOf, aExtract, frame0, DImage.row]
 exact .bump (.setBox (Nat.le_refl _) (.refl _))
 rintro F H' ⟨g1, g2, g7, g8, hext⟩
 by_cases hE : encE m = 0
 obtain ⟨hc, hl, hB, hok⟩ := enc_ok hin hE
 have hne := encFile_ne m
 rw [hB] at g7
 generalize hL : encFile m = l at g7 hl hne
 have hpos : 0 < l.length := List.length_pos_iff.2 hne
 refine T_seqk fun K1 hK1 => ?_
 refine T_sr fun K2 hK2 => ?_
 simp [↓put_at, ↓AF.ev_tmp, ↓ex_cons, ↓ex_nil, ↓ex_move, ↓ex_binOp, ↓AF.ev_int, ↓ex_guard, ↓ex_len, ↓ex_pick, ↓AF.ev_bool, aBin, aBinV, aLen, frame0, g1, g2, g7, g8, hE, hE, int_bne, int_beq, hne]
 refine hK2 _ _ ?_
 try clear hK2 K2
 refine T_cond (by first | rfl | exact g1 | exact g2 | exact g7 | exact g8 | exact hE) (fun c0 => ?_) (fun c0 => ?_)
 exact absurd c0 (by simp) --done
 refine T_skip ?_
 try simp only [tN, bN, lN]
 refine hK1 _ _ ?_
 try clear hK1 K1
 refine T_sr fun K3 hK3 => ?_
 obtain ⟨k, hk, hkm⟩ : ∃ k : Nat, k < l.length ∧ (a : Int).tmod (l.length : Int) = (k : Int) := ⟨a % l.length, Nat.mod_lt _ hpos, by rw [Int.tmod_eq_emod_of_nonneg (by omega)]; norm_cast⟩
 have hw1 : IntKind.u64.wrap (l.length : Int) = l.length := by rw [u64_def]; omega
 have hw2 : IntKind.i64.wrap (k : Int) = k := wrap_i64 (by omega) (by omega)
 simp [↓put_at, ↓AF.ev_tmp, ↓ex_cons, ↓ex_nil, ↓ex_move, ↓ex_len, ↓ex_convert, ↓ex_binOp, ↓ex_assign, aLen, aConvert, aBin, aBinV, frame0, g1, g2, g7, g8, hE, hne, hkm, hw1, hw2]
 refine hK3 _ _ ?_
 try clear hK3 K3
 refine T_sr fun K4 hK4 => ?_
 simp [↓put_at, ↓AF.ev_tmp, ↓ex_cons, ↓ex_nil, ↓ex_move, ↓ex_call, ↓AF.ev_func, ↓ex_assign, frame0, g1, g2, g7, g8, hE]
 refine callK.of (cloneList _ H.color l hne (by omega)) ?_
 rintro _ Hz ⟨rfl, hz⟩
 subst Hz
 simp [↓put_at, ↓AF.ev_tmp, ↓ex_cons, ↓ex_nil, ↓ex_move, ↓ex_call, ↓AF.ev_func, ↓ex_assign, frame0, g1, g2, g7, g8, hE]
 refine hK4 _ _ ?_
 try clear hK4 K4
 refine T_sr fun K5 hK5 => ?_
 simp [↓put_at, ↓AF.ev_tmp, ↓ex_cons, ↓ex_nil, ↓ex_move, ↓ex_indexAddr, ↓ex_store, aIndexAddr, astore, frame0, g1, g2, g7, g8, hE, aIndexAddr, amsl hk, List.getElem?_eq_getElem hk, brow_len, splice_b8]
 refine hK5 _ _ ?_
 try clear hK5 K5
 refine T_mid (fun F H' => F 2 = b8 x ∧ F 7 = PV.sl H.color 1 (l.map brow) ∧ F 9 = pi k ∧ (∃ e : Int, F 13 = pi e ∧ (e = 0 ↔ DecOk (l.set k x))) ∧ H.Ext H') ?_ ?_
 refine T_rg ?_
 simp [↓put_at, ↓AF.ev_tmp, ↓ex_cons, ↓ex_nil, ↓ex_move, ↓ex_call, ↓AF.ev_func, ↓ex_extract, ↓ex_alloc, ↓ex_store, ↓ex_assign, aExtract, aalloc, astore, splice, frame0, g1, g2, g7, g8, hE, DImage.row]
 refine callK.of (decodeOwn _ H'.next (.msl H'.next l.length 1) (l.set k x) (.mk (Nat.le_refl _) (by simp) (by simp [List.map_set]) (by simp)) (by simp; omega)) ?_
 rintro _ H2 ⟨⟨n, q, e, rfl, he, _⟩, hab, hcol, hnx⟩
 simp [↓put_at, ↓AF.ev_tmp, ↓ex_cons, ↓ex_nil, ↓ex_move, ↓ex_call, ↓AF.ev_func, ↓ex_extract, ↓ex_alloc, ↓ex_store, ↓ex_assign, aExtract, aalloc, astore, splice, frame0, g1, g2, g7, g8, hE, DImage.row]
 exact ⟨he, .setBox (by have := hext.next; simp at hnx; omega) (.bump (.setBox (by have := hext.next; simp at hnx; omega) (hab H hext.next (.setBox hext.next (.bump (.setBox hext.next hext))))))⟩
 rintro F H' ⟨g2, g7, g9, ⟨e, g13, he⟩, hext⟩
 refine T_sr fun K6 hK6 => ?_
 have hiff : (e = 0 ↔ x = l[k]) := he.trans (by subst hL; exact turned hok hc hl hk x)
 simp [↓put_at, ↓AF.ev_tmp, ↓ex_cons, ↓ex_nil, ↓ex_move, ↓ex_binOp, ↓AF.ev_int, ↓ex_indexAddr, ↓ex_load, ↓ex_guard, ↓ex_call, ↓AF.ev_func, ↓ex_pick, ↓AF.ev_bool, ↓ex_assign, aIndexAddr, aload, frame0, g1, g2, g7, g8, hE, g2, g7, g9, g13, aIndexAddr, sl_get (map_get (f := brow) hk), part_byte, bin_eq8, eqI, eqB, hiff]
 refine callK.of (awakeIs _) ?_
 rintro _ Hz ⟨rfl, hz⟩
 subst Hz
 simp [↓put_at, ↓AF.ev_tmp, ↓ex_cons, ↓ex_nil, ↓ex_move, ↓ex_binOp, ↓AF.ev_int, ↓ex_indexAddr, ↓ex_load, ↓ex_guard, ↓ex_call, ↓AF.ev_func, ↓ex_pick, ↓AF.ev_bool, ↓ex_assign, aIndexAddr, aload, frame0, g1, g2, g7, g8, hE, g2, g7, g9, g13, aIndexAddr, sl_get (map_get (f := brow) hk), part_byte, bin_eq8, eqI, eqB, hiff]
 refine hK6 _ _ ?_
 try clear hK6 K6
 refine T_ret ?_
 try simp only [thenK_ret, blockT_ret, loopT_ret, jumpT_ret]
 exact owes_one (.inr rfl) hwf rfl rfl hext (by simp) (by simp)
 
 refine T_seqk fun K7 hK7 => ?_
 refine T_sr fun K8 hK8 => ?_
 simp [↓put_at, ↓AF.ev_tmp, ↓ex_cons, ↓ex_nil, ↓ex_move, ↓ex_binOp, ↓AF.ev_int, ↓ex_guard, ↓ex_len, ↓ex_pick, ↓AF.ev_bool, aBin, aBinV, aLen, frame0, g1, g2, g7, g8, hE, hE, int_bne, int_beq]
 refine hK8 _ _ ?_
 try clear hK8 K8
 refine T_cond (by first | rfl | exact g1 | exact g2 | exact g7 | exact g8 | exact hE) (fun c1 => ?_) (fun c1 => ?_)
 refine T_sr fun K9 hK9 => ?_
 simp [↓put_at, ↓AF.ev_tmp, ↓ex_cons, ↓ex_nil, ↓ex_call, ↓AF.ev_func, ↓ex_assign, frame0, g1, g2, g7, g8, hE]
 refine callK.of (awakeIs _) ?_
 rintro _ Hz ⟨rfl, hz⟩
 subst Hz
 simp [↓put_at, ↓AF.ev_tmp, ↓ex_cons, ↓ex_nil, ↓ex_call, ↓AF.ev_func, ↓ex_assign, frame0, g1, g2, g7, g8, hE]
 refine hK9 _ _ ?_
 try clear hK9 K9
 refine T_ret ?_
 try simp only [thenK_ret, blockT_ret, loopT_ret, jumpT_ret]
 exact owes_one (.inr rfl) hwf rfl rfl hext (by simp) (by simp)
 exact absurd c1 (by simp) --done
end Go.Abs
namespace Go.Abs
open Go.Proofs
set_option autoImplicit false
set_option linter.all false
theorem cut_hiU {c : Nat} {bs : List UInt8} {n : Nat} (h : n ≤ bs.length) : aCutOp Tryz.prog 28 (PV.sl c 1 (bs.map brow)) none (some (.val (.int .u64 (n : Int)))) = some (PV.sl c 1 ((bs.take n).map brow)) := cut_hi h
theorem part_image (c : Nat) (x : DImage) : partOf Tryz.prog 26 (x.row c) 0 = some (.agg (x.row c)) := by simp [partOf, DImage.row]
theorem neI (t : TypeId) (a b : Int) : aBin Tryz.prog .neq t (pi a) (pi b) = some (pb (!decide (a = b))) := by simp [aBin, aBinV, int_bne]
theorem enc_bad {m : DImage} (hE : ¬ encE m = 0) : encB m = [] := by
 unfold encE at hE
 unfold encB
 by_cases hc : checkE m = 0
 rw [if_pos hc] at hE ⊢
 by_cases hl : 4194304 < (encFile m).length
 rw [if_pos hl]
 rw [if_neg hl] at hE; exact absurd rfl hE
 rw [if_neg hc]
theorem enc_four {m : DImage} (hE : ¬ encE m = 0) (hc : checkE m = 0) : encE m = 4 := by
 unfold encE at hE ⊢
 rw [if_pos hc] at hE ⊢
 by_cases hl : 4194304 < (encFile m).length
 rw [if_pos hl]
 rw [if_neg hl] at hE; exact absurd rfl hE
theorem enc_why {m : DImage} (hc : ¬ checkE m = 0) : encE m = checkE m := by unfold encE; rw [if_neg hc]
theorem enc_of_dec {b : List UInt8} (h : DecOk b) : encE (rdAll b).1 = 0 ∧ encB (rdAll b).1 = b := by
 obtain ⟨-, -, hf⟩ := dec_enc h
 have hc := h.2.2.2
 have hl := h.1.1
 unfold encE encB
 rw [if_pos hc, if_pos hc, hf, if_neg (by omega), if_neg (by omega)]
 exact ⟨rfl, rfl⟩
set_option maxRecDepth 100000 in
theorem lawBegins (H : AS) (c d : Nat) (m : DImage) (hin : m.In) (a : Nat) (ha : a < 18446744073709551616) (r : List UInt8) (hr : r.length ≤ 2 ^ 47) : ACalls Tryz.prog 4 [.agg (m.row c), .val (.int .u64 (a : Int)), PV.sl d 1 (r.map brow)] H fun q H' => q = pb true ∧ H' = H := by
 refine ACalls_intro Tryz.func4 rfl (by kernel_rfl) (by simp) fun hwf hbel => ?_
 refine T_sr fun K0 hK0 => ?_
 simp [↓put_at, ↓AF.ev_tmp, ↓ex_cons, ↓ex_nil, ↓ex_box, ↓ex_assign, ↓AF.ev_bool, abox, frame0, abox_image]
 refine hK0 _ _ ?_
 try clear hK0 K0
 refine T_mid (fun F H' => F 1 = .val (.int .u64 (a : Int)) ∧ F 2 = PV.sl d 1 (r.map brow) ∧ F 7 = PV.sl H.color 1 ((encB m).map brow) ∧ F 8 = pi (encE m) ∧ H.Ext H') ?_ ?_
 refine T_rg ?_
 simp [↓put_at, ↓AF.ev_tmp, ↓ex_cons, ↓ex_nil, ↓ex_load, ↓ex_call, ↓AF.ev_func, ↓ex_move, ↓ex_extract, ↓ex_assign, aload, partOf, aExtract, frame0, DImage.row]
 refine callK.of (encodeIs _ c m hin.typed.ncells hin.typed.ncodes hin.typed.njobs hin.sizes hin.addr) ?_
 rintro _ Hz ⟨rfl, hz⟩
 subst Hz
 simp [↓put_at, ↓AF.ev_tmp, ↓ex_cons, ↓ex_nil, ↓ex_load, ↓ex_call, ↓AF.ev_func, ↓ex_move, ↓ex_extract, ↓ex_assign, aload, partOf, aExtract, frame0, DImage.row]
 exact .bump (.setBox (Nat.le_refl _) (.refl _))
 rintro F H' ⟨g1, g2, g7, g8, hext⟩
 by_cases hE : encE m = 0
 obtain ⟨hc, hl, hB, hok⟩ := enc_ok hin hE
 have hne := encFile_ne m
 rw [hB] at g7
 generalize hL : encFile m = l at g7 hl hne
 have hpos : 0 < l.length := List.length_pos_iff.2 hne
 refine T_seqk fun K1 hK1 => ?_
 refine T_sr fun K2 hK2 => ?_
 simp [↓put_at, ↓AF.ev_tmp, ↓ex_cons, ↓ex_nil, ↓ex_move, ↓ex_binOp, ↓AF.ev_int, ↓ex_guard, ↓ex_len, ↓ex_pick, ↓AF.ev_bool, aBin, aBinV, aLen, frame0, g1, g2, g7, g8, hE, hE, int_bne, int_beq, hne]
 refine hK2 _ _ ?_
 try clear hK2 K2
 refine T_cond (by first | rfl | exact g1 | exact g2 | exact g7 | exact g8 | exact hE) (fun c0 => ?_) (fun c0 => ?_)
 exact absurd c0 (by simp) --done
 refine T_skip ?_
 try simp only [tN, bN, lN]
 refine hK1 _ _ ?_
 try clear hK1 K1
 refine T_mid (fun F H' => F 2 = PV.sl d 1 (r.map brow) ∧ F 7 = PV.sl H.color 1 (l.map brow) ∧ (∃ e : Int, F 11 = pi e ∧ ¬ e = 0) ∧ H.Ext H') ?_ ?_
 refine T_rg ?_
 obtain ⟨k, hk, hkm⟩ : ∃ k : Nat, k < l.length ∧ (a : Int).tmod (l.length : Int) = (k : Int) := ⟨a % l.length, Nat.mod_lt _ hpos, by rw [Int.tmod_eq_emod_of_nonneg (by omega)]; norm_cast⟩
 have hw1 : IntKind.u64.wrap (l.length : Int) = l.length := by rw [u64_def]; omega
 have hw2 : IntKind.i64.wrap (k : Int) = k := wrap_i64 (by omega) (by omega)
 have hkl : k ≤ l.length := by omega
 simp [↓put_at, ↓AF.ev_tmp, ↓ex_cons, ↓ex_nil, ↓ex_move, ↓ex_len, ↓ex_convert, ↓ex_binOp, ↓ex_slice, ↓ex_call, ↓AF.ev_func, ↓ex_extract, ↓ex_alloc, ↓ex_store, ↓ex_assign, aLen, aConvert, aBin, aBinV, aExtract, aalloc, astore, splice, frame0, g1, g2, g7, g8, hE, hne, hkm, hw1, hw2, cut_hiU hkl, -List.map_take, DImage.row]
 refine callK.of (decodeIs _ (l.take k) (by simp; omega) H.color) ?_
 rintro _ Hz ⟨⟨n, q, e, rfl, he, _⟩, hz⟩
 subst Hz
 simp [↓put_at, ↓AF.ev_tmp, ↓ex_cons, ↓ex_nil, ↓ex_move, ↓ex_len, ↓ex_convert, ↓ex_binOp, ↓ex_slice, ↓ex_call, ↓AF.ev_func, ↓ex_extract, ↓ex_alloc, ↓ex_store, ↓ex_assign, aLen, aConvert, aBin, aBinV, aExtract, aalloc, astore, splice, frame0, g1, g2, g7, g8, hE, hne, hkm, hw1, hw2, cut_hiU hkl, -List.map_take, DImage.row]
 exact ⟨fun e0 => (by subst hL; exact begins hok hc hk (he.1 e0)), .setBox (by have := hext.next; omega) (.bump (.setBox (by have := hext.next; omega) hext))⟩
 rintro F H' ⟨g2, g7, ⟨e1, g11, hne1⟩, hext⟩
 refine T_mid (fun F H' => F 2 = PV.sl d 1 (r.map brow) ∧ (∃ e : Int, F 11 = pi e ∧ ¬ e = 0) ∧ (∃ e : Int, F 14 = pi e ∧ (e = 0 ↔ r = [])) ∧ H.Ext H') ?_ ?_
 refine T_rg ?_
 simp [↓put_at, ↓AF.ev_tmp, ↓ex_cons, ↓ex_nil, ↓ex_move, ↓ex_call, ↓AF.ev_func, ↓ex_append, ↓ex_extract, ↓ex_alloc, ↓ex_store, ↓ex_assign, aExtract, aalloc, astore, splice, frame0, g1, g2, g7, g8, hE, g2, g7, g11, DImage.row]
 refine callK.of (cloneList _ H.color l hne (by omega)) ?_
 rintro _ Hz ⟨rfl, hz⟩
 subst Hz
 simp [↓put_at, ↓AF.ev_tmp, ↓ex_cons, ↓ex_nil, ↓ex_move, ↓ex_call, ↓AF.ev_func, ↓ex_append, ↓ex_extract, ↓ex_alloc, ↓ex_store, ↓ex_assign, aExtract, aalloc, astore, splice, frame0, g1, g2, g7, g8, hE, g2, g7, g11, DImage.row]
 refine appendK.of (aappend_outF (lo := H'.next) (rows := l.map brow) (ys := r.map brow) ?_ ?_ rfl rfl Tryz.sz5 Tryz.zero5 Tryz.by5 rfl rfl (by decide) ?_ (frozen_brow _) ?_ ?_)
 exact .mk (Nat.le_refl _) (by simp) (by simp) (by simp)
 simp
 simp
 simp [appFits]; omega
 intro p' H2 hout2 hab2 _
 simp [↓put_at, ↓AF.ev_tmp, ↓ex_cons, ↓ex_nil, ↓ex_move, ↓ex_call, ↓AF.ev_func, ↓ex_append, ↓ex_extract, ↓ex_alloc, ↓ex_store, ↓ex_assign, aExtract, aalloc, astore, splice, frame0, g1, g2, g7, g8, hE, g2, g7, g11, DImage.row]
 refine callK.of (decodeOwn _ H'.next p' (l ++ r) (by rw [List.map_append]; exact hout2) (by simp; omega)) ?_
 rintro _ H3 ⟨⟨n, q, e2, rfl, he2, _⟩, hab3, hcol, hnx⟩
 simp [↓put_at, ↓AF.ev_tmp, ↓ex_cons, ↓ex_nil, ↓ex_move, ↓ex_call, ↓AF.ev_func, ↓ex_append, ↓ex_extract, ↓ex_alloc, ↓ex_store, ↓ex_assign, aExtract, aalloc, astore, splice, frame0, g1, g2, g7, g8, hE, g2, g7, g11, DImage.row]
 have hext3 : H.Ext H3 := hab3 H hext.next (hab2 H hext.next (.bump (.setBox hext.next hext)))
 exact ⟨hne1, he2.trans (by subst hL; exact begins_more hok hc hl), .setBox hext3.next (.bump (.setBox hext3.next hext3))⟩
 rintro F H' ⟨g2, ⟨e1, g11, hne1⟩, ⟨e2, g14, hiff⟩, hext⟩
 refine T_sr fun K3 hK3 => ?_
 simp [↓put_at, ↓AF.ev_tmp, ↓ex_cons, ↓ex_nil, ↓ex_move, ↓ex_binOp, ↓AF.ev_int, ↓ex_guard, ↓ex_len, ↓ex_pick, ↓AF.ev_bool, ↓ex_call, ↓AF.ev_func, ↓ex_assign, aLen, frame0, g1, g2, g7, g8, hE, g2, g7, g11, g2, g11, g14, eqI, neI, eqB, hne1, hiff, int_beq]
 refine callK.of (awakeIs _) ?_
 rintro _ Hz ⟨rfl, hz⟩
 subst Hz
 simp [↓put_at, ↓AF.ev_tmp, ↓ex_cons, ↓ex_nil, ↓ex_move, ↓ex_binOp, ↓AF.ev_int, ↓ex_guard, ↓ex_len, ↓ex_pick, ↓AF.ev_bool, ↓ex_call, ↓AF.ev_func, ↓ex_assign, aLen, frame0, g1, g2, g7, g8, hE, g2, g7, g11, g2, g11, g14, eqI, neI, eqB, hne1, hiff, int_beq]
 refine hK3 _ _ ?_
 try clear hK3 K3
 refine T_ret ?_
 try simp only [thenK_ret, blockT_ret, loopT_ret, jumpT_ret]
 exact owes_one (.inr rfl) hwf rfl rfl hext (by simp) (by simp)
 
 refine T_seqk fun K4 hK4 => ?_
 refine T_sr fun K5 hK5 => ?_
 simp [↓put_at, ↓AF.ev_tmp, ↓ex_cons, ↓ex_nil, ↓ex_move, ↓ex_binOp, ↓AF.ev_int, ↓ex_guard, ↓ex_len, ↓ex_pick, ↓AF.ev_bool, aBin, aBinV, aLen, frame0, g1, g2, g7, g8, hE, hE, int_bne, int_beq]
 refine hK5 _ _ ?_
 try clear hK5 K5
 refine T_cond (by first | rfl | exact g1 | exact g2 | exact g7 | exact g8 | exact hE) (fun c1 => ?_) (fun c1 => ?_)
 refine T_sr fun K6 hK6 => ?_
 simp [↓put_at, ↓AF.ev_tmp, ↓ex_cons, ↓ex_nil, ↓ex_call, ↓AF.ev_func, ↓ex_assign, frame0, g1, g2, g7, g8, hE]
 refine callK.of (awakeIs _) ?_
 rintro _ Hz ⟨rfl, hz⟩
 subst Hz
 simp [↓put_at, ↓AF.ev_tmp, ↓ex_cons, ↓ex_nil, ↓ex_call, ↓AF.ev_func, ↓ex_assign, frame0, g1, g2, g7, g8, hE]
 refine hK6 _ _ ?_
 try clear hK6 K6
 refine T_ret ?_
 try simp only [thenK_ret, blockT_ret, loopT_ret, jumpT_ret]
 exact owes_one (.inr rfl) hwf rfl rfl hext (by simp) (by simp)
 exact absurd c1 (by simp) --done
end Go.Abs
namespace Go.Abs
open Go.Proofs
set_option autoImplicit false
set_option linter.all false
set_option maxRecDepth 100000 in
theorem lawForm (H : AS) (c : Nat) (bs : List UInt8) (hb : bs.length < 2 ^ 62) : ACalls Tryz.prog 6 [PV.sl c 1 (bs.map brow)] H fun q H' => q = pb true ∧ H' = H := by
 refine ACalls_intro Tryz.func6 rfl (by kernel_rfl) (by simp) fun hwf hbel => ?_
 refine T_sr fun K0 hK0 => ?_
 simp [↓put_at, ↓AF.ev_tmp, ↓ex_cons, ↓ex_nil, ↓ex_assign, ↓AF.ev_bool, frame0]
 refine hK0 _ _ ?_
 try clear hK0 K0
 refine T_mid (fun F H' => F 0 = PV.sl c 1 (bs.map brow) ∧ F 3 = .ptr H.next 1 0 0 ∧ (∃ (n : DImage) (e : Int), F 5 = pi e ∧ H'.box H.next = some [n.row H.color] ∧ (e = 0 ↔ DecOk bs) ∧ (e = 0 → n = (rdAll bs).1)) ∧ H.Ext H') ?_ ?_
 refine T_rg ?_
 simp [↓put_at, ↓AF.ev_tmp, ↓ex_cons, ↓ex_nil, ↓ex_move, ↓ex_call, ↓AF.ev_func, ↓ex_extract, ↓ex_alloc, ↓ex_store, ↓ex_assign, aExtract, aalloc, astore, splice, frame0, DImage.row]
 refine callK.of (decodeIs _ bs hb c) ?_
 rintro _ Hz ⟨⟨n, q, e, rfl, he, hn⟩, hz⟩
 subst Hz
 simp [↓put_at, ↓AF.ev_tmp, ↓ex_cons, ↓ex_nil, ↓ex_move, ↓ex_call, ↓AF.ev_func, ↓ex_extract, ↓ex_alloc, ↓ex_store, ↓ex_assign, aExtract, aalloc, astore, splice, frame0, DImage.row]
 exact ⟨⟨n, ⟨rfl, rfl, rfl, rfl⟩, he, fun h => (hn h).1⟩, .setBox (Nat.le_refl _) (.bump (.setBox (Nat.le_refl _) (.refl _)))⟩
 rintro F H' ⟨g0, g3, ⟨n, e, g5, b3, he, hn⟩, hext⟩
 by_cases hE : e = 0
 have hd := he.1 hE
 obtain rfl := hn hE
 obtain ⟨hE2, hB2⟩ := enc_of_dec hd
 have hsm : SmallImg (rdAll bs).1 := rd_small (by have := hd.1.1; omega) hd.1.2.1 hd.2.1
 refine T_seqk fun K1 hK1 => ?_
 refine T_sr fun K2 hK2 => ?_
 simp [↓put_at, ↓AF.ev_tmp, ↓ex_cons, ↓ex_nil, ↓ex_move, ↓ex_binOp, ↓AF.ev_int, aBin, aBinV, frame0, g0, g3, g5, hE, hE, int_bne]
 refine hK2 _ _ ?_
 try clear hK2 K2
 refine T_cond (by first | rfl | exact g0 | exact g3 | exact g5 | exact hE) (fun c0 => ?_) (fun c0 => ?_)
 exact absurd c0 (by simp) --done
 refine T_skip ?_
 try simp only [tN, bN, lN]
 refine hK1 _ _ ?_
 try clear hK1 K1
 refine T_sr fun K3 hK3 => ?_
 simp [↓put_at, ↓AF.ev_tmp, ↓ex_cons, ↓ex_nil, ↓ex_load, ↓ex_call, ↓AF.ev_func, ↓ex_move, ↓ex_extract, ↓ex_assign, aload, aExtract, frame0, g0, g3, g5, hE, b3, part_image]
 refine callK.of (encodeIs _ H.color (rdAll bs).1 hsm.cells hsm.codes hsm.jobs hsm.ops hsm.addr) ?_
 rintro _ Hz ⟨rfl, hz⟩
 subst Hz
 rw [hE2, hB2]
 simp [↓put_at, ↓AF.ev_tmp, ↓ex_cons, ↓ex_nil, ↓ex_load, ↓ex_call, ↓AF.ev_func, ↓ex_move, ↓ex_extract, ↓ex_assign, aload, aExtract, frame0, g0, g3, g5, hE, b3, part_image]
 refine hK3 _ _ ?_
 try clear hK3 K3
 refine T_sr fun K4 hK4 => ?_
 simp [↓put_at, ↓AF.ev_tmp, ↓ex_cons, ↓ex_nil, ↓ex_move, ↓ex_binOp, ↓AF.ev_int, ↓ex_guard, ↓ex_call, ↓AF.ev_func, ↓ex_pick, ↓AF.ev_bool, ↓ex_assign, frame0, g0, g3, g5, hE, eqI]
 refine callK.of (eqBytes _ c H'.color bs bs hb) ?_
 rintro _ Hz ⟨rfl, hz⟩
 subst Hz
 simp [↓put_at, ↓AF.ev_tmp, ↓ex_cons, ↓ex_nil, ↓ex_move, ↓ex_binOp, ↓AF.ev_int, ↓ex_guard, ↓ex_call, ↓AF.ev_func, ↓ex_pick, ↓AF.ev_bool, ↓ex_assign, frame0, g0, g3, g5, hE, eqI]
 refine callK.of (awakeIs _) ?_
 rintro _ Hz ⟨rfl, hz⟩
 subst Hz
 simp [↓put_at, ↓AF.ev_tmp, ↓ex_cons, ↓ex_nil, ↓ex_move, ↓ex_binOp, ↓AF.ev_int, ↓ex_guard, ↓ex_call, ↓AF.ev_func, ↓ex_pick, ↓AF.ev_bool, ↓ex_assign, frame0, g0, g3, g5, hE, eqI]
 refine hK4 _ _ ?_
 try clear hK4 K4
 refine T_ret ?_
 try simp only [thenK_ret, blockT_ret, loopT_ret, jumpT_ret]
 exact owes_one (.inr rfl) hwf rfl rfl hext (by simp) (by simp)
 
 refine T_seqk fun K5 hK5 => ?_
 refine T_sr fun K6 hK6 => ?_
 simp [↓put_at, ↓AF.ev_tmp, ↓ex_cons, ↓ex_nil, ↓ex_move, ↓ex_binOp, ↓AF.ev_int, aBin, aBinV, frame0, g0, g3, g5, hE, hE, int_bne]
 refine hK6 _ _ ?_
 try clear hK6 K6
 refine T_cond (by first | rfl | exact g0 | exact g3 | exact g5 | exact hE) (fun c1 => ?_) (fun c1 => ?_)
 refine T_sr fun K7 hK7 => ?_
 simp [↓put_at, ↓AF.ev_tmp, ↓ex_cons, ↓ex_nil, ↓ex_call, ↓AF.ev_func, ↓ex_assign, frame0, g0, g3, g5, hE]
 refine callK.of (awakeIs _) ?_
 rintro _ Hz ⟨rfl, hz⟩
 subst Hz
 simp [↓put_at, ↓AF.ev_tmp, ↓ex_cons, ↓ex_nil, ↓ex_call, ↓AF.ev_func, ↓ex_assign, frame0, g0, g3, g5, hE]
 refine hK7 _ _ ?_
 try clear hK7 K7
 refine T_ret ?_
 try simp only [thenK_ret, blockT_ret, loopT_ret, jumpT_ret]
 exact owes_one (.inr rfl) hwf rfl rfl hext (by simp) (by simp)
 exact absurd c1 (by simp) --done
end Go.Abs
namespace Go.Abs
open Go.Proofs
set_option autoImplicit false
set_option linter.all false
set_option maxRecDepth 100000 in
theorem lawBack (H : AS) (c : Nat) (m : DImage) (hin : m.In) (hsm : m.Small) : ACalls Tryz.prog 7 [.agg (m.row c)] H fun q H' => q = pb true ∧ H' = H := by
 refine ACalls_intro Tryz.func7 rfl (by kernel_rfl) (by simp) fun hwf hbel => ?_
 refine T_sr fun K0 hK0 => ?_
 simp [↓put_at, ↓AF.ev_tmp, ↓ex_cons, ↓ex_nil, ↓ex_box, ↓ex_assign, ↓AF.ev_bool, abox, frame0, abox_image]
 refine hK0 _ _ ?_
 try clear hK0 K0
 refine T_sr fun K1 hK1 => ?_
 simp [↓put_at, ↓AF.ev_tmp, ↓ex_cons, ↓ex_nil, ↓ex_load, ↓ex_call, ↓AF.ev_func, ↓ex_move, ↓ex_extract, ↓ex_assign, aload, partOf, aExtract, frame0, DImage.row]
 refine callK.of (encodeIs _ c m hin.typed.ncells hin.typed.ncodes hin.typed.njobs hin.sizes hin.addr) ?_
 rintro _ Hz ⟨rfl, hz⟩
 subst Hz
 simp [↓put_at, ↓AF.ev_tmp, ↓ex_cons, ↓ex_nil, ↓ex_load, ↓ex_call, ↓AF.ev_func, ↓ex_move, ↓ex_extract, ↓ex_assign, aload, partOf, aExtract, frame0, DImage.row]
 refine hK1 _ _ ?_
 try clear hK1 K1
 refine T_mid (fun F H' => F 1 = .ptr H.next 1 0 0 ∧ F 3 = PV.sl H.color 1 ((encB m).map brow) ∧ F 4 = pi (encE m) ∧ F 7 = pi (checkE m) ∧ H'.box H.next = some [m.row c] ∧ H.Ext H' ∧ H.next < H'.next) ?_ ?_
 refine T_rg ?_
 simp [↓put_at, ↓AF.ev_tmp, ↓ex_cons, ↓ex_nil, ↓ex_load, ↓ex_call, ↓AF.ev_func, ↓ex_move, ↓ex_extract, ↓ex_assign, aload, partOf, aExtract, frame0, DImage.row]
 refine callK.of (checkIs _ c m hin.typed.ncells hin.typed.ncodes hin.typed.njobs hin.sizes hin.addr) ?_
 rintro _ Hz ⟨⟨ca, cb, rfl⟩, hz⟩
 subst Hz
 simp [↓put_at, ↓AF.ev_tmp, ↓ex_cons, ↓ex_nil, ↓ex_load, ↓ex_call, ↓AF.ev_func, ↓ex_move, ↓ex_extract, ↓ex_assign, aload, partOf, aExtract, frame0, DImage.row]
 exact .bump (.setBox (Nat.le_refl _) (.refl _))
 rintro F H' ⟨g1, g3, g4, g7, b1, hext, hnx⟩
 by_cases hE : encE m = 0
 obtain ⟨hc, hl, hB, hok⟩ := enc_ok hin hE
 rw [hB] at g3
 have hdec := encFile_dec hok hc hl
 refine T_seqk fun K2 hK2 => ?_
 refine T_sr fun K3 hK3 => ?_
 simp [↓put_at, ↓AF.ev_tmp, ↓ex_cons, ↓ex_nil, ↓ex_move, ↓ex_binOp, ↓AF.ev_int, aBin, aBinV, frame0, g1, g3, g4, g7, hE, hE, int_bne]
 refine hK3 _ _ ?_
 try clear hK3 K3
 refine T_cond (by first | rfl | exact g1 | exact g3 | exact g4 | exact g7 | exact hE) (fun c0 => ?_) (fun c0 => ?_)
 exact absurd c0 (by simp) --done
 refine T_skip ?_
 try simp only [tN, bN, lN]
 refine hK2 _ _ ?_
 try clear hK2 K2
 refine T_mid (fun F H' => F 1 = .ptr H.next 1 0 0 ∧ F 7 = pi (checkE m) ∧ F 9 = pi 0 ∧ F 10 = pi 0 ∧ (∃ j, F 8 = .ptr j 1 0 0 ∧ H'.box j = some [m.row H.color]) ∧ H'.box H.next = some [m.row c] ∧ H.Ext H') ?_ ?_
 refine T_rg ?_
 simp [↓put_at, ↓AF.ev_tmp, ↓ex_cons, ↓ex_nil, ↓ex_move, ↓ex_call, ↓AF.ev_func, ↓ex_extract, ↓ex_alloc, ↓ex_store, ↓ex_assign, aExtract, aalloc, astore, splice, frame0, g1, g3, g4, g7, hE, DImage.row]
 refine callK.of (decodeIs _ (encFile m) (by omega) H.color) ?_
 rintro _ Hz ⟨⟨n, q, e, rfl, he, hn⟩, hz⟩
 subst Hz
 have e0 := he.2 hdec.1
 obtain ⟨hn1, hn2⟩ := hn e0
 rw [hdec.2] at hn1
 subst hn1 hn2 e0
 simp [↓put_at, ↓AF.ev_tmp, ↓ex_cons, ↓ex_nil, ↓ex_move, ↓ex_call, ↓AF.ev_func, ↓ex_extract, ↓ex_alloc, ↓ex_store, ↓ex_assign, aExtract, aalloc, astore, splice, frame0, g1, g3, g4, g7, hE, DImage.row]
 have hcol := hext.color
 have hne' : ¬ H.next = H'.next := by omega
 refine ⟨by rw [hcol]; exact ⟨rfl, rfl, rfl⟩, by rw [if_neg hne', if_neg hne', b1]; rfl, .setBox (by have := hext.next; omega) (.bump (.setBox hext.next hext))⟩
 rintro F H' ⟨g1, g7, g9, g10, ⟨j, g8, b8⟩, b1, hext⟩
 refine T_sr fun K4 hK4 => ?_
 simp [↓put_at, ↓AF.ev_tmp, ↓ex_cons, ↓ex_nil, ↓ex_move, ↓ex_binOp, ↓AF.ev_int, ↓ex_guard, ↓ex_pick, ↓AF.ev_bool, ↓ex_load, ↓ex_call, ↓AF.ev_func, ↓ex_assign, aload, frame0, g1, g3, g4, g7, hE, g1, g7, g8, g9, g10, eqI, hc, b1, b8, part_image]
 refine callK.of (sameImageP _ c H.color m m hsm) ?_
 rintro _ Hz ⟨rfl, hz⟩
 subst Hz
 simp [↓put_at, ↓AF.ev_tmp, ↓ex_cons, ↓ex_nil, ↓ex_move, ↓ex_binOp, ↓AF.ev_int, ↓ex_guard, ↓ex_pick, ↓AF.ev_bool, ↓ex_load, ↓ex_call, ↓AF.ev_func, ↓ex_assign, aload, frame0, g1, g3, g4, g7, hE, g1, g7, g8, g9, g10, eqI, hc, b1, b8, part_image]
 refine callK.of (sameImages _ c H.color m m hsm) ?_
 rintro _ Hz ⟨rfl, hz⟩
 subst Hz
 simp [↓put_at, ↓AF.ev_tmp, ↓ex_cons, ↓ex_nil, ↓ex_move, ↓ex_binOp, ↓AF.ev_int, ↓ex_guard, ↓ex_pick, ↓AF.ev_bool, ↓ex_load, ↓ex_call, ↓AF.ev_func, ↓ex_assign, aload, frame0, g1, g3, g4, g7, hE, g1, g7, g8, g9, g10, eqI, hc, b1, b8, part_image]
 refine callK.of (awakeIs _) ?_
 rintro _ Hz ⟨rfl, hz⟩
 subst Hz
 simp [↓put_at, ↓AF.ev_tmp, ↓ex_cons, ↓ex_nil, ↓ex_move, ↓ex_binOp, ↓AF.ev_int, ↓ex_guard, ↓ex_pick, ↓AF.ev_bool, ↓ex_load, ↓ex_call, ↓AF.ev_func, ↓ex_assign, aload, frame0, g1, g3, g4, g7, hE, g1, g7, g8, g9, g10, eqI, hc, b1, b8, part_image]
 refine hK4 _ _ ?_
 try clear hK4 K4
 refine T_ret ?_
 try simp only [thenK_ret, blockT_ret, loopT_ret, jumpT_ret]
 exact owes_one (.inr rfl) hwf rfl rfl hext (by simp) (by simp)
 
 refine T_seqk fun K5 hK5 => ?_
 refine T_sr fun K6 hK6 => ?_
 simp [↓put_at, ↓AF.ev_tmp, ↓ex_cons, ↓ex_nil, ↓ex_move, ↓ex_binOp, ↓AF.ev_int, aBin, aBinV, frame0, g1, g3, g4, g7, hE, hE, int_bne]
 refine hK6 _ _ ?_
 try clear hK6 K6
 refine T_cond (by first | rfl | exact g1 | exact g3 | exact g4 | exact g7 | exact hE) (fun c1 => ?_) (fun c1 => ?_)
 refine T_sr fun K7 hK7 => ?_
 suffices key : ∀ (F2 : AF) (H2 : AS), F2 2 = pb true → H.Ext H2 → K7 F2 H2 by
   have hB0 := enc_bad hE
   by_cases hc : checkE m = 0
   · have h4 := enc_four hE hc
     simp [↓put_at, ↓AF.ev_tmp, ↓ex_cons, ↓ex_nil, ↓ex_move, ↓ex_len, ↓ex_binOp, ↓AF.ev_int, ↓ex_guard, ↓ex_pick, ↓AF.ev_bool, ↓ex_call, ↓AF.ev_func, ↓ex_assign, aLen, aBin, aBinV, frame0, g1, g3, g4, g7, hE, int_beq, lenOf, hB0, hc, h4]
     refine callK.of (awakeIs _) ?_
     rintro _ Hz ⟨rfl, hz⟩
     subst Hz
     simp [↓put_at, ↓AF.ev_tmp, ↓ex_cons, ↓ex_nil, ↓ex_move, ↓ex_len, ↓ex_binOp, ↓AF.ev_int, ↓ex_guard, ↓ex_pick, ↓AF.ev_bool, ↓ex_call, ↓AF.ev_func, ↓ex_assign, aLen, aBin, aBinV, frame0, g1, g3, g4, g7, hE, int_beq, lenOf, hB0, hc, h4]
     exact key _ _ (by simp) hext
   · have h4 := enc_why hc
     simp [↓put_at, ↓AF.ev_tmp, ↓ex_cons, ↓ex_nil, ↓ex_move, ↓ex_len, ↓ex_binOp, ↓AF.ev_int, ↓ex_guard, ↓ex_pick, ↓AF.ev_bool, ↓ex_call, ↓AF.ev_func, ↓ex_assign, aLen, aBin, aBinV, frame0, g1, g3, g4, g7, hE, int_beq, lenOf, hB0, hc, h4]
     refine callK.of (awakeIs _) ?_
     rintro _ Hz ⟨rfl, hz⟩
     subst Hz
     simp [↓put_at, ↓AF.ev_tmp, ↓ex_cons, ↓ex_nil, ↓ex_move, ↓ex_len, ↓ex_binOp, ↓AF.ev_int, ↓ex_guard, ↓ex_pick, ↓AF.ev_bool, ↓ex_call, ↓AF.ev_func, ↓ex_assign, aLen, aBin, aBinV, frame0, g1, g3, g4, g7, hE, int_beq, lenOf, hB0, hc, h4]
     exact key _ _ (by simp) hext
 intro F2 H2 f2 hext
 refine hK7 _ _ ?_
 try clear hK7 K7
 refine T_ret ?_
 try simp only [thenK_ret, blockT_ret, loopT_ret, jumpT_ret]
 exact owes_one (.inr rfl) hwf rfl f2 hext (by rw [f2]; simp) (by rw [f2]; simp)
 exact absurd c1 (by simp) --done
end Go.Abs
namespace Go.Abs
open Go.Proofs
set_option autoImplicit false
set_option linter.all false
section
variable {H : Type} {enc : TypeId × Value → H} {W : World} {c : Nat}
theorem wf_int {k : IntKind} {n : Int} (h : (Lit.int k n).wf = true) : k.min ≤ n ∧ n ≤ k.max := by
 simpa [Lit.wf] using h
theorem rU8 : Reads enc Tryz.prog W c 39 (fun n : Int => [.val (.int .u8 n)]) ok8 := (reads_int Tryz.underlying39).map id (fun _ _ => rfl) fun n h => by
  obtain ⟨h1, h2⟩ := wf_int h
  have e1 : IntKind.u8.min = 0 := by decide
  have e2 : IntKind.u8.max = 255 := by decide
  unfold ok8; simp only [id]; omega
theorem rByte : Reads enc Tryz.prog W c 5 brow (fun _ => True) := (reads_int Tryz.underlying5).map (fun n => UInt8.ofNat n.toNat) (fun n h => by
  obtain ⟨h1, h2⟩ := wf_int h
  have e1 : IntKind.u8.min = 0 := by decide
  have e2 : IntKind.u8.max = 255 := by decide
  have e : (((UInt8.ofNat n.toNat).toNat : Nat) : Int) = n := by rw [UInt8.toNat_ofNat']; omega
  simp only [brow, e]) fun _ _ => trivial
theorem rU64 : Reads enc Tryz.prog W c 40 (fun n : Int => [.val (.int .u64 n)]) okU64 := (reads_int Tryz.underlying40).map id (fun _ _ => rfl) fun n h => by
  obtain ⟨h1, h2⟩ := wf_int h
  have e1 : IntKind.u64.min = 0 := by decide
  have e2 : IntKind.u64.max = 18446744073709551615 := by decide
  unfold okU64; simp only [id]; omega
theorem rInt : Reads enc Tryz.prog W c 3 irow ok64 := (reads_int Tryz.underlying3).map id (fun _ _ => rfl) fun n h => by
  obtain ⟨h1, h2⟩ := wf_int h
  have e1 : IntKind.i64.min = -9223372036854775808 := by decide
  have e2 : IntKind.i64.max = 9223372036854775807 := by decide
  unfold ok64; simp only [id]; omega
theorem rBool : Reads enc Tryz.prog W c 4 (fun b : Bool => [pb b]) (fun _ => True) := reads_bool Tryz.underlying4
theorem rStr : Reads enc Tryz.prog W c 9 (fun s : ByteArray => [ps s]) (fun s => s.size ≤ 281474976710656) := (reads_string Tryz.underlying9).map id (fun _ _ => rfl) fun s h => by
  have : reachBytes ≤ 281474976710656 := by decide
  simp only [id]; omega
theorem okText_of {s : ByteArray} (h : s.size ≤ 281474976710656) : okText s := by unfold okText; omega
theorem rVal : Reads enc Tryz.prog W c 42 DVal.row DVal.Ok := by
 refine Reads.map (reads_struct Tryz.underlying42 (by kernel_rfl) (readsF_cons (n := 1) rfl (by kernel_rfl) (rU8) (readsF_cons (n := 1) rfl (by kernel_rfl) (rU64) (readsF_cons (n := 1) rfl (by kernel_rfl) (rStr) (readsF_nil))))) (fun p => ⟨p.1, p.2.1, p.2.2.1⟩) (fun a _ => rfl) (fun a h => ⟨h.1, h.2.1, okText_of h.2.2.1⟩)
theorem rCell : Reads enc Tryz.prog W c 44 DCell.row (fun x => x.Typed ∧ x.addr.size ≤ 281474976710656) := by
 refine Reads.map (reads_struct Tryz.underlying44 (by kernel_rfl) (readsF_cons (n := 1) rfl (by kernel_rfl) (rU8) (readsF_cons (n := 1) rfl (by kernel_rfl) (rBool) (readsF_cons (n := 1) rfl (by kernel_rfl) (rInt) (readsF_cons (n := 1) rfl (by kernel_rfl) (rInt) (readsF_cons (n := 1) rfl (by kernel_rfl) (rInt) (readsF_cons (n := 3) rfl (by kernel_rfl) (rVal) (readsF_cons (n := 1) rfl (by kernel_rfl) (rBool) (readsF_cons (n := 1) rfl (by kernel_rfl) (rInt) (readsF_cons (n := 1) rfl (by kernel_rfl) (rStr) (readsF_nil))))))))))) (fun p => ⟨p.1, p.2.1, p.2.2.1, p.2.2.2.1, p.2.2.2.2.1, p.2.2.2.2.2.1, p.2.2.2.2.2.2.1, p.2.2.2.2.2.2.2.1, p.2.2.2.2.2.2.2.2.1⟩) (fun a _ => rfl)
   (fun a h => ⟨⟨h.1, h.2.2.1, h.2.2.2.1, h.2.2.2.2.1, h.2.2.2.2.2.1, h.2.2.2.2.2.2.2.1, okText_of h.2.2.2.2.2.2.2.2.1⟩, h.2.2.2.2.2.2.2.2.1⟩)
theorem rOp : Reads enc Tryz.prog W c 50 DOp.row DOp.Ok := by
 refine Reads.map (reads_struct Tryz.underlying50 (by kernel_rfl) (readsF_cons (n := 1) rfl (by kernel_rfl) (rInt) (readsF_cons (n := 1) rfl (by kernel_rfl) (rInt) (readsF_cons (n := 1) rfl (by kernel_rfl) (rInt) (readsF_cons (n := 1) rfl (by kernel_rfl) (rInt) (readsF_cons (n := 1) rfl (by kernel_rfl) (rInt) (readsF_cons (n := 1) rfl (by kernel_rfl) (rInt) (readsF_cons (n := 1) rfl (by kernel_rfl) (rInt) (readsF_cons (n := 3) rfl (by kernel_rfl) (rVal) (readsF_nil)))))))))) (fun p => ⟨p.1, p.2.1, p.2.2.1, p.2.2.2.1, p.2.2.2.2.1, p.2.2.2.2.2.1, p.2.2.2.2.2.2.1, p.2.2.2.2.2.2.2.1⟩) (fun a _ => rfl)
   (fun a h => ⟨h.1, h.2.1, h.2.2.1, h.2.2.2.1, h.2.2.2.2.1, h.2.2.2.2.2.1, h.2.2.2.2.2.2.1, h.2.2.2.2.2.2.2.1⟩)
theorem rLoop : Reads enc Tryz.prog W c 52 DLoop.row DLoop.Ok := by
 refine Reads.map (reads_struct Tryz.underlying52 (by kernel_rfl) (readsF_cons (n := 1) rfl (by kernel_rfl) (rInt) (readsF_cons (n := 1) rfl (by kernel_rfl) (rInt) (readsF_cons (n := 1) rfl (by kernel_rfl) (rInt) (readsF_nil))))) (fun p => ⟨p.1, p.2.1, p.2.2.1⟩) (fun a _ => rfl) (fun a h => ⟨h.1, h.2.1, h.2.2.1⟩)
theorem by_44 : Tryz.prog.bytesOf 44 = 96 := by kernel_rfl
theorem by_50 : Tryz.prog.bytesOf 50 = 88 := by kernel_rfl
theorem by_52 : Tryz.prog.bytesOf 52 = 24 := by kernel_rfl
theorem by_48 : Tryz.prog.bytesOf 48 = 104 := by kernel_rfl
theorem by_55 : Tryz.prog.bytesOf 55 = 96 := by kernel_rfl
theorem by_3 : Tryz.prog.bytesOf 3 = 8 := by kernel_rfl
theorem by_5 : Tryz.prog.bytesOf 5 = 1 := by kernel_rfl
theorem reach_lt : reachBytes ≤ 2 ^ 47 := by decide
theorem rFlat : Reads enc Tryz.prog W c 48 (DFlat.row c) (fun f => f.Ok ∧ f.Small) := by
 refine Reads.map (reads_struct Tryz.underlying48 (by kernel_rfl) (readsF_cons (n := 1) rfl (by kernel_rfl) (rStr) (readsF_cons (n := 1) rfl (by kernel_rfl) (rInt) (readsF_cons (n := 1) rfl (by kernel_rfl) (rInt) (readsF_cons (n := 1) rfl (by kernel_rfl) (rInt) (readsF_cons (n := 1) rfl (by kernel_rfl) (rInt) (readsF_cons (n := 1) rfl (by kernel_rfl) (rInt) (readsF_cons (n := 1) rfl (by kernel_rfl) (reads_slice Tryz.underlying45 (by kernel_rfl : Tryz.prog.cellsOf 50 = 10) (by decide) rOp) (readsF_cons (n := 1) rfl (by kernel_rfl) (reads_slice Tryz.underlying46 (by kernel_rfl : Tryz.prog.cellsOf 52 = 3) (by decide) rLoop) (readsF_nil)))))))))) (fun p => ⟨p.1, p.2.1, p.2.2.1, p.2.2.2.1, p.2.2.2.2.1, p.2.2.2.2.2.1, p.2.2.2.2.2.2.1, p.2.2.2.2.2.2.2.1⟩) (fun a _ => rfl) (fun a h => ?_)
 have h1 := by_50
 have h2 := h.2.2.2.2.2.2.1.1
 have h3 := by_52
 have h4 := h.2.2.2.2.2.2.2.1.1
 have h5 := reach_lt
 rw [h1] at h2
 rw [h3] at h4
 exact ⟨⟨okText_of h.1, h.2.1, h.2.2.1, h.2.2.2.1, h.2.2.2.2.1, h.2.2.2.2.2.1, by simp only [] at h2 ⊢; omega, h.2.2.2.2.2.2.1.2, by simp only [] at h4 ⊢; omega, h.2.2.2.2.2.2.2.1.2⟩, by simp only [] at h2 ⊢; omega, by simp only [] at h4 ⊢; omega⟩
theorem rJob : Reads enc Tryz.prog W c 55 (DJob.row c) (fun j => j.Ok ∧ j.Small) := by
 refine Reads.map (reads_struct Tryz.underlying55 (by kernel_rfl) (readsF_cons (n := 1) rfl (by kernel_rfl) (rStr) (readsF_cons (n := 1) rfl (by kernel_rfl) (rInt) (readsF_cons (n := 1) rfl (by kernel_rfl) (rInt) (readsF_cons (n := 1) rfl (by kernel_rfl) (rInt) (readsF_cons (n := 1) rfl (by kernel_rfl) (reads_slice Tryz.underlying53 (by kernel_rfl : Tryz.prog.cellsOf 3 = 1) (by decide) rInt) (readsF_cons (n := 1) rfl (by kernel_rfl) (reads_slice Tryz.underlying53 (by kernel_rfl : Tryz.prog.cellsOf 3 = 1) (by decide) rInt) (readsF_cons (n := 1) rfl (by kernel_rfl) (rInt) (readsF_nil))))))))) (fun p => ⟨p.1, p.2.1, p.2.2.1, p.2.2.2.1, p.2.2.2.2.1, p.2.2.2.2.2.1, p.2.2.2.2.2.2.1⟩) (fun a _ => rfl) (fun a h => ?_)
 have h1 := by_3
 have h2 := h.2.2.2.2.1.1
 have h4 := h.2.2.2.2.2.1.1
 have h5 := reach_lt
 rw [h1] at h2 h4
 exact ⟨⟨okText_of h.1, h.2.1, h.2.2.1, h.2.2.2.1, by simp only [] at h2 ⊢; omega, h.2.2.2.2.1.2, by simp only [] at h4 ⊢; omega, h.2.2.2.2.2.1.2, h.2.2.2.2.2.2.1⟩, by simp only [] at h2 ⊢; omega, by simp only [] at h4 ⊢; omega⟩
theorem rImage : Reads enc Tryz.prog W c 26 (DImage.row c) (fun m => m.In ∧ m.Small) := by
 refine Reads.map (reads_struct Tryz.underlying26 (by kernel_rfl) (readsF_cons (n := 1) rfl (by kernel_rfl) (rStr) (readsF_cons (n := 1) rfl (by kernel_rfl) (reads_slice Tryz.underlying22 (by kernel_rfl : Tryz.prog.cellsOf 44 = 11) (by decide) rCell) (readsF_cons (n := 1) rfl (by kernel_rfl) (reads_slice Tryz.underlying23 (by kernel_rfl : Tryz.prog.cellsOf 48 = 8) (by decide) rFlat) (readsF_cons (n := 1) rfl (by kernel_rfl) (reads_slice Tryz.underlying24 (by kernel_rfl : Tryz.prog.cellsOf 55 = 7) (by decide) rJob) (readsF_nil)))))) (fun p => ⟨p.1, p.2.1, p.2.2.1, p.2.2.2.1⟩) (fun a _ => rfl) (fun a h => ?_)
 obtain ⟨n, ⟨l1, cs⟩, ⟨l2, fs⟩, ⟨l3, js⟩, _⟩ := h
 have h5 := reach_lt
 rw [by_44] at l1
 rw [by_48] at l2
 rw [by_55] at l3
 refine ⟨⟨⟨okText_of n, by simp only [] at l1 ⊢; omega, fun x hx => (cs x hx).1, by simp only [] at l2 ⊢; omega, fun f hf => (fs f hf).1, by simp only [] at l3 ⊢; omega, fun j hj => (js j hj).1⟩, fun f hf => ?_, fun x hx => (cs x hx).2⟩, ?_⟩
 have := (fs f hf).2
 exact ⟨by have := this.1; omega, by have := this.2; omega⟩
 exact ⟨by simp only [] at l1 ⊢; omega, by simp only [] at l2 ⊢; omega, by simp only [] at l3 ⊢; omega, fun f hf => (fs f hf).2, fun j hj => (js j hj).2⟩
theorem rBytes : Reads enc Tryz.prog W c 28 (fun bs : List UInt8 => [PV.sl c 1 (bs.map brow)]) (fun bs => bs.length ≤ 2 ^ 47) := (reads_slice Tryz.underlying28 (by kernel_rfl : Tryz.prog.cellsOf 5 = 1) (by decide) rByte).map id (fun _ _ => rfl) fun bs h => by
  have h1 := h.1
  have h5 := reach_lt
  rw [by_5] at h1
  simp only [id]; omega
end
end Go.Abs
namespace Go.Proofs.YtllgmpejmagndaaGreatDoor
open Go.ChangeShapes Go.WideShapes Go.ChangeAt Go.RowKit Go.Abs
set_option maxRecDepth 100000
theorem own_ : ownKnob Tryz.prog.godebug = none := by kernel_rfl
theorem laid_ : laidOutB Tryz.prog = true := by kernel_rfl
theorem readable26 : Tryz.prog.readableRec 26 = true := by kernel_rfl
theorem readable27 : Tryz.prog.readableRec 27 = true := by kernel_rfl
theorem readable28 : Tryz.prog.readableRec 28 = true := by kernel_rfl
theorem readable5 : Tryz.prog.readableRec 5 = true := by kernel_rfl
def laids : List (String × DataW Unit) := Rows.imageTurnedRow.laid
theorem door_met (os : Os) (args : Array Value) : laidMetH Tryz.prog laids ((World.doorLaid Tryz.prog 2000 os).forCall (fun _ _ => 0) ⟨#[], args, []⟩).memory :=
  laidMetH_of_parts3 (fuel := 8) (laidMet_of_run' 8 (by kernel_rfl) (by kernel_rfl)) (by kernel_rfl) (by kernel_rfl)
theorem gPow : Tryz.prog.globalNamed "internal/strconv.uint64pow10" = some 4 := by kernel_rfl
theorem gSyn : Tryz.prog.globalNamed "strconv.ErrSyntax" = some 2 := by kernel_rfl
theorem gRan : Tryz.prog.globalNamed "strconv.ErrRange" = some 3 := by kernel_rfl
theorem cells_at {W : World} {n : String} {g : Nat} {cs : Array Value} (hg : Tryz.prog.globalNamed n = some g) (h : W.var? Tryz.prog n = some cs) : ∃ t fz, W.heap[g]? = some (.cells cs t fz) := by
 unfold World.var? at h
 rw [hg] at h
 simp only [Option.bind_some] at h
 split at h
 rename_i cs' t fz e
 cases h
 exact ⟨t, fz, e⟩
 cases h
theorem err_of {W : World} {g t : Nat} {n : String} {cs : Array Value} {fuel : Nat} {x : DataW Unit × List MemPlace} (hg : Tryz.prog.globalNamed n = some g) (hv : W.var? Tryz.prog n = some cs) (hti : ∃ ms, Tryz.prog.underlying t = some (.interface ms))
    (h : DataW.trod (fun _ => ()) Tryz.prog W 0 (fun _ => true) false fuel t cs.toList = some x) : errCell W g := by
  obtain ⟨ty, fz, hh⟩ := cells_at hg hv
  obtain ⟨ms, ht⟩ := hti
  cases fuel with
  | zero => simp [DataW.trod] at h
  | succ m =>
    unfold DataW.trod at h
    rw [ht] at h
    obtain ⟨l⟩ := cs
    match l, hh, h with
    | [], _, h => simp at h
    | a :: b :: r, _, h => simp at h
    | [v], hh, h =>
      have hv : v = .nilIface ∨ ∃ te pe, v = .iface te pe := by
        cases v <;> first | exact .inl rfl | exact .inr ⟨_, _, rfl⟩ | simp at h
      exact ⟨v, _, ty, fz, hh, rfl, hv⟩
theorem amb {W : World} (h : laidMetH Tryz.prog laids W) : ambient W := by
 rw [MakeChecks.laidMetH_plain _ _ _ (by kernel_rfl)] at h
 obtain ⟨ps, ⟨g0, t0, cs0, f0, p0, q0, hg0, ht0, hv0, hd0, ⟨g1, t1, cs1, f1, p1, q1, hg1, ht1, hv1, hd1, ⟨g2, t2, cs2, f2, p2, q2, hg2, ht2, hv2, hd2, ⟨g3, t3, cs3, f3, p3, q3, hg3, ht3, hv3, hd3, ⟨g4, t4, cs4, f4, p4, q4, hg4, ht4, hv4, hd4, _, _⟩, _⟩, _⟩, _⟩, _⟩, _, _⟩ := h
 obtain rfl := Option.some.inj (gPow.symm.trans hg2)
 obtain rfl := Option.some.inj (gRan.symm.trans hg3)
 obtain rfl := Option.some.inj (gSyn.symm.trans hg4)
 obtain rfl := Option.some.inj ((show (Tryz.prog.globals[4]?).map (·.type) = some 191 by kernel_rfl).symm.trans ht2)
 obtain rfl := Option.some.inj ((show (Tryz.prog.globals[3]?).map (·.type) = some 150 by kernel_rfl).symm.trans ht3)
 obtain rfl := Option.some.inj ((show (Tryz.prog.globals[2]?).map (·.type) = some 150 by kernel_rfl).symm.trans ht4)
 have hcs := Lib.cells_of_tab (k := .u64) (zs := Lib.pow10Tab) Tryz.underlying191 Tryz.underlying40 (by kernel_rfl) (by kernel_rfl) hd2
 obtain ⟨t, fz, hh⟩ := cells_at gPow hv2
 refine ⟨⟨t, fz, ?_⟩, err_of gSyn hv4 ⟨_, Tryz.underlying150⟩ hd4, err_of gRan hv3 ⟨_, Tryz.underlying150⟩ hd3⟩
 rw [hh]
 congr 2
 exact Array.ext' hcs
theorem rep_agg {G : Gh} {l : List PV} {cs : Array Value} (h : RepRow G l cs.toList) : Rep G (.agg l) (.agg cs) := by
 obtain ⟨h1, h2, h3⟩ := h
 exact .agg (by simpa using h1) (fun j v hv => h3 j v (by simpa using hv)) (fun j p v hp hv => h2 j p v hp (by simpa using hv))
theorem opened {H : Type} {enc : TypeId × Value → H} {W : World} {base : Nat} {v : Value} {d : DataW H} {p : List MemPlace} (hok : Value.okWide Tryz.prog W .any base 26 v)
    (h : DataW.Trod enc Tryz.prog W 0 (fun _ => true) true 26 v d p) (hw : ∀ n ∈ d.weights Tryz.prog 26, n ≤ reachBytes) : ∃ m : DImage, Rep (Gh.start W 0) (.agg (m.row 0)) v ∧ m.In ∧ m.Small := by
 unfold Value.okWide at hok
 rw [Tryz.underlying26] at hok
 obtain ⟨cs, rfl, -⟩ := hok
 obtain ⟨fuel, hf⟩ := h
 obtain ⟨m, h1, h2, h3⟩ := rImage (c := 0) fuel _ _ hf hw
 exact ⟨m, rep_agg h1, h2, h3⟩
theorem cells_of {v : Value} (h : ∀ cs, v ≠ .agg cs) : v.cells = #[v] := by
 cases v <;> first | rfl | exact absurd rfl (h _)
theorem openB {H : Type} {enc : TypeId × Value → H} {W : World} {base : Nat} {v : Value} {d : DataW H} {p : List MemPlace} (hok : Value.okWide Tryz.prog W .any base 28 v)
    (h : DataW.Trod enc Tryz.prog W 0 (fun _ => true) true 28 v d p) (hw : ∀ n ∈ d.weights Tryz.prog 28, n ≤ reachBytes) : ∃ bs : List UInt8, Rep (Gh.start W 0) (PV.sl 0 1 (bs.map brow)) v ∧ bs.length ≤ 2 ^ 47 := by
 have hv : ∀ cs, v ≠ .agg cs := by
   intro cs e
   subst e
   unfold Value.okWide at hok
   rw [Tryz.underlying28] at hok
   unfold Cell.okWide at hok
   rw [Tryz.underlying28] at hok
   unfold Cell.ok at hok
   rw [Tryz.underlying28] at hok
   exact hok
 obtain ⟨fuel, hf⟩ := h
 obtain ⟨bs, ⟨h1, h2, h3⟩, h4⟩ := rBytes (c := 0) fuel _ _ hf hw
 rw [cells_of hv] at h2
 exact ⟨bs, h2 0 _ _ rfl rfl, h4⟩
theorem u64_of {W : World} {base : Nat} {v : Value} (h : Value.okWide Tryz.prog W .any base 27 v) : ∃ a : Nat, a < 18446744073709551616 ∧ v = .int .u64 (a : Int) := by
 unfold Value.okWide at h
 rw [Tryz.underlying27] at h
 unfold Cell.okWide at h
 rw [Tryz.underlying27] at h
 unfold Cell.ok at h
 rw [Tryz.underlying27] at h
 cases v <;> simp only [] at h <;> try exact h.elim
 rename_i k n
 obtain ⟨rfl, h1, h2⟩ := h
 have e1 : IntKind.u64.min = 0 := by decide
 have e2 : IntKind.u64.max = 18446744073709551615 := by decide
 exact ⟨n.toNat, by omega, by congr 1; omega⟩
theorem u8_of {W : World} {base : Nat} {v : Value} (h : Value.okWide Tryz.prog W .any base 5 v) : ∃ b : UInt8, v = .int .u8 (b.toNat : Int) := by
 unfold Value.okWide at h
 rw [Tryz.underlying5] at h
 unfold Cell.okWide at h
 rw [Tryz.underlying5] at h
 unfold Cell.ok at h
 rw [Tryz.underlying5] at h
 cases v <;> simp only [] at h <;> try exact h.elim
 rename_i k n
 obtain ⟨rfl, h1, h2⟩ := h
 have e1 : IntKind.u8.min = 0 := by decide
 have e2 : IntKind.u8.max = 255 := by decide
 refine ⟨UInt8.ofNat n.toNat, ?_⟩
 congr 1
 rw [UInt8.toNat_ofNat']; omega
theorem trod_true {H : Type} (enc : TypeId × Value → H) (w : World) (base : Nat) (sp : Nat → Bool) (hd : Bool) : DataW.Trod enc Tryz.prog w base sp hd 4 (.bool true) (.lit (.bool true)) [] := ⟨1, by simp [DataW.trod, Tryz.underlying4, Value.cells]⟩
end Go.Proofs.YtllgmpejmagndaaGreatDoor
