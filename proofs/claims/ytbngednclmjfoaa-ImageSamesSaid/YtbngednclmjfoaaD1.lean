import Derived.Test.YtbngednclmjfoaaD0
namespace Go.Abs
open Go.Proofs
set_option autoImplicit false
set_option linter.unusedSimpArgs false
set_option linter.unusedVariables false

abbrev pi (n : Int) : PV := .val (.int .i64 n)
abbrev ps (s : ByteArray) : PV := .val (.string s)
abbrev pb (b : Bool) : PV := .val (.bool b)

@[ext] structure DVal where
  kind : Int
  bits : Int
  text : ByteArray
  deriving DecidableEq
@[ext] structure DCell where
  kind : Int
  sub : Bool
  lo : Int
  hi : Int
  max : Int
  init : DVal
  keep : Bool
  dir : Int
  addr : ByteArray
  deriving DecidableEq
@[ext] structure DOp where
  code : Int
  a : Int
  b : Int
  c : Int
  d : Int
  lo : Int
  hi : Int
  value : DVal
  deriving DecidableEq
@[ext] structure DLoop where
  head : Int
  stop : Int
  times : Int
  deriving DecidableEq
@[ext] structure DFlat where
  name : ByteArray
  what : Int
  cells : Int
  base : Int
  regs : Int
  slots : Int
  ops : List DOp
  loops : List DLoop
  deriving DecidableEq
@[ext] structure DJob where
  name : ByteArray
  interval : Int
  single : Int
  priority : Int
  codes : List Int
  bases : List Int
  bound : Int
  deriving DecidableEq
@[ext] structure DImage where
  name : ByteArray
  cells : List DCell
  codes : List DFlat
  jobs : List DJob
  deriving DecidableEq

def DVal.row (v : DVal) : List PV := [.val (.int .u8 v.kind), .val (.int .u64 v.bits), ps v.text]
def DCell.row (x : DCell) : List PV := [.val (.int .u8 x.kind), pb x.sub, pi x.lo, pi x.hi, pi x.max, .val (.int .u8 x.init.kind), .val (.int .u64 x.init.bits), ps x.init.text, pb x.keep, pi x.dir, ps x.addr]
def DOp.row (x : DOp) : List PV := [pi x.code, pi x.a, pi x.b, pi x.c, pi x.d, pi x.lo, pi x.hi, .val (.int .u8 x.value.kind), .val (.int .u64 x.value.bits), ps x.value.text]
def DLoop.row (x : DLoop) : List PV := [pi x.head, pi x.stop, pi x.times]
def irow (n : Int) : List PV := [pi n]
def DFlat.row (c : Nat) (x : DFlat) : List PV := [ps x.name, pi x.what, pi x.cells, pi x.base, pi x.regs, pi x.slots, PV.sl c 10 (x.ops.map DOp.row), PV.sl c 3 (x.loops.map DLoop.row)]
def DJob.row (c : Nat) (x : DJob) : List PV := [ps x.name, pi x.interval, pi x.single, pi x.priority, PV.sl c 1 (x.codes.map irow), PV.sl c 1 (x.bases.map irow), pi x.bound]
def DImage.row (c : Nat) (x : DImage) : List PV := [ps x.name, PV.sl c 11 (x.cells.map DCell.row), PV.sl c 8 (x.codes.map (DFlat.row c)), PV.sl c 7 (x.jobs.map (DJob.row c))]

theorem beq_bytes (a b : ByteArray) : (a == b) = decide (a = b) := by
  rw [beq_toListBytes, ByteArray.toList_eq, ByteArray.toList_eq, Bool.eq_iff_iff]
  simp only [beq_iff_eq, decide_eq_true_eq]
  constructor
  · intro h; cases a; cases b; congr 1; exact Array.ext' h
  · rintro rfl; rfl

theorem int_bne (a b : Int) : (a != b) = !decide (a = b) := rfl
theorem int_beq (a b : Int) : (a == b) = decide (a = b) := rfl

set_option maxRecDepth 100000 in
theorem eqVal (a b : DVal) (d : Nat) : aEqIn Try.prog (d + 2) 33 (.agg a.row) (.agg b.row) = some (decide (a = b)) := by
  simp [aEqIn, Program.fieldsOf, aEqIn.go, partOf, aEqCell, DVal.row, beq_bytes]
  rw [Bool.eq_iff_iff]; cases a; cases b; simp


theorem part_cell (x : DCell) : partOf Try.prog 35 x.row 0 = some (.agg x.row) := by simp [partOf, DCell.row]
theorem part_op (x : DOp) : partOf Try.prog 54 x.row 0 = some (.agg x.row) := by simp [partOf, DOp.row]
theorem part_loop (x : DLoop) : partOf Try.prog 57 x.row 0 = some (.agg x.row) := by simp [partOf, DLoop.row]
theorem part_flat (c : Nat) (x : DFlat) : partOf Try.prog 46 (x.row c) 0 = some (.agg (x.row c)) := by simp [partOf, DFlat.row]
theorem part_job (c : Nat) (x : DJob) : partOf Try.prog 39 (x.row c) 0 = some (.agg (x.row c)) := by simp [partOf, DJob.row]
theorem part_image (c : Nat) (x : DImage) : partOf Try.prog 26 (x.row c) 0 = some (.agg (x.row c)) := by simp [partOf, DImage.row]
theorem part_int (x : Int) : partOf Try.prog 3 (irow x) 0 = some (pi x) := by simp [partOf, irow]

set_option maxRecDepth 100000 in
theorem eqCell' (a b : DCell) (d : Nat) : aEqIn Try.prog (d + 3) 35 (.agg a.row) (.agg b.row) = some (decide (a = b)) := by
  simp [aEqIn, Program.fieldsOf, aEqIn.go, partOf, aEqCell, DCell.row, beq_bytes]
  rw [Bool.eq_iff_iff]; cases a; cases b; simp [DVal.ext_iff, and_assoc]
theorem eqCell (a b : DCell) : aEqIn Try.prog Op.maxDepth 35 (.agg a.row) (.agg b.row) = some (decide (a = b)) := eqCell' a b 9997
set_option maxRecDepth 100000 in
theorem eqOp' (a b : DOp) (d : Nat) : aEqIn Try.prog (d + 3) 54 (.agg a.row) (.agg b.row) = some (decide (a = b)) := by
  simp [aEqIn, Program.fieldsOf, aEqIn.go, partOf, aEqCell, DOp.row, beq_bytes]
  rw [Bool.eq_iff_iff]; cases a; cases b; simp [DVal.ext_iff, and_assoc]
theorem eqOp (a b : DOp) : aEqIn Try.prog Op.maxDepth 54 (.agg a.row) (.agg b.row) = some (decide (a = b)) := eqOp' a b 9997
set_option maxRecDepth 100000 in
theorem eqLoop' (a b : DLoop) (d : Nat) : aEqIn Try.prog (d + 3) 57 (.agg a.row) (.agg b.row) = some (decide (a = b)) := by
  simp [aEqIn, Program.fieldsOf, aEqIn.go, partOf, aEqCell, DLoop.row, beq_bytes]
  rw [Bool.eq_iff_iff]; cases a; cases b; simp
theorem eqLoop (a b : DLoop) : aEqIn Try.prog Op.maxDepth 57 (.agg a.row) (.agg b.row) = some (decide (a = b)) := eqLoop' a b 9997
end Go.Abs
