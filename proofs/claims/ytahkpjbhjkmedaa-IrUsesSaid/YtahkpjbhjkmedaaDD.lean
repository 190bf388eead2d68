/- Data of images and of instructions, and their rows. -/
import Derived.Test.YtahkpjbhjkmedaaK19
namespace Go.Abs
set_option autoImplicit false
set_option linter.all false

abbrev pi (n : Int) : PV := .val (.int .i64 n)
abbrev ps (s : ByteArray) : PV := .val (.string s)
abbrev pb (b : Bool) : PV := .val (.bool b)

@[ext] structure DVal where
  kind : Int
  bits : Int
  text : ByteArray
  deriving DecidableEq
@[ext] structure DCell where
  kind : Int
  sub : Bool
  lo : Int
  hi : Int
  max : Int
  init : DVal
  keep : Bool
  dir : Int
  addr : ByteArray
  deriving DecidableEq
@[ext] structure DOp where
  code : Int
  a : Int
  b : Int
  c : Int
  d : Int
  lo : Int
  hi : Int
  value : DVal
  deriving DecidableEq
@[ext] structure DLoop where
  head : Int
  stop : Int
  times : Int
  deriving DecidableEq
@[ext] structure DFlat where
  name : ByteArray
  what : Int
  cells : Int
  base : Int
  regs : Int
  slots : Int
  ops : List DOp
  loops : List DLoop
  deriving DecidableEq
@[ext] structure DJob where
  name : ByteArray
  interval : Int
  single : Int
  priority : Int
  codes : List Int
  bases : List Int
  bound : Int
  deriving DecidableEq
@[ext] structure DImage where
  name : ByteArray
  cells : List DCell
  codes : List DFlat
  jobs : List DJob
  deriving DecidableEq

def DVal.row (v : DVal) : List PV := [.val (.int .u8 v.kind), .val (.int .u64 v.bits), ps v.text]
def DCell.row (x : DCell) : List PV := [.val (.int .u8 x.kind), pb x.sub, pi x.lo, pi x.hi, pi x.max, .val (.int .u8 x.init.kind), .val (.int .u64 x.init.bits), ps x.init.text, pb x.keep, pi x.dir, ps x.addr]
def DOp.row (x : DOp) : List PV := [pi x.code, pi x.a, pi x.b, pi x.c, pi x.d, pi x.lo, pi x.hi, .val (.int .u8 x.value.kind), .val (.int .u64 x.value.bits), ps x.value.text]
def DLoop.row (x : DLoop) : List PV := [pi x.head, pi x.stop, pi x.times]
def irow (n : Int) : List PV := [pi n]
def DFlat.row (c : Nat) (x : DFlat) : List PV := [ps x.name, pi x.what, pi x.cells, pi x.base, pi x.regs, pi x.slots, PV.sl c 10 (x.ops.map DOp.row), PV.sl c 3 (x.loops.map DLoop.row)]
def DJob.row (c : Nat) (x : DJob) : List PV := [ps x.name, pi x.interval, pi x.single, pi x.priority, PV.sl c 1 (x.codes.map irow), PV.sl c 1 (x.bases.map irow), pi x.bound]
def DImage.row (c : Nat) (x : DImage) : List PV := [ps x.name, PV.sl c 11 (x.cells.map DCell.row), PV.sl c 8 (x.codes.map (DFlat.row c)), PV.sl c 7 (x.jobs.map (DJob.row c))]

theorem beq_bytes (a b : ByteArray) : (a == b) = decide (a = b) := by
  rw [beq_toListBytes, ByteArray.toList_eq, ByteArray.toList_eq, Bool.eq_iff_iff]
  simp only [beq_iff_eq, decide_eq_true_eq]
  constructor
  · intro h; cases a; cases b; congr 1; exact Array.ext' h
  · rintro rfl; rfl

theorem int_bne (a b : Int) : (a != b) = !decide (a = b) := rfl
theorem int_beq (a b : Int) : (a == b) = decide (a = b) := rfl

theorem map_get {α : Type} {xs : List α} {f : α → List PV} {i : Nat} (h : i < xs.length) : (xs.map f)[i]? = some (f xs[i]) := by simp [h]

end Go.Abs
