/- The abstract layer, part 2: what the operations do to abstract values and abstract memory. -/
import Derived.Test.YtahkpjbhjkmedaaK1
namespace Go.Abs
set_option autoImplicit false

abbrev AF := Nat → PV
def AF.put (F : AF) (d : Option Nat) (p : PV) : AF := match d with
  | some d => fun t => if t = d then p else F t
  | none => F

@[simp] theorem AF.put_none (F : AF) (p : PV) : F.put none p = F := rfl
@[simp] theorem AF.put_some (F : AF) (d t : Nat) (p : PV) : (F.put (some d) p) t = if t = d then p else F t := rfl

/-- A literal as an abstract value. -/
def PV.lit : Value → PV
  | .agg vs => .agg (vs.toList.map .val)
  | v => .val v

def AF.ev (F : AF) : Operand → PV
  | .tmp t => F t
  | .const v => PV.lit v
  | .global g => .val (.pointer (some ⟨g, 0, none⟩))
  | .func f => .func f []

@[simp] theorem AF.ev_tmp (F : AF) (t : Nat) : F.ev (.tmp t) = F t := rfl
@[simp] theorem AF.ev_int (F : AF) (k : IntKind) (n : Int) : F.ev (.const (.int k n)) = .val (.int k n) := rfl
@[simp] theorem AF.ev_bool (F : AF) (b : Bool) : F.ev (.const (.bool b)) = .val (.bool b) := rfl
@[simp] theorem AF.ev_string (F : AF) (s : ByteArray) : F.ev (.const (.string s)) = .val (.string s) := rfl
@[simp] theorem AF.ev_slice (F : AF) (a : Option Addr) (l c : Nat) : F.ev (.const (.slice a l c)) = .val (.slice a l c) := rfl
@[simp] theorem AF.ev_agg (F : AF) (vs : Array Value) : F.ev (.const (.agg vs)) = .agg (vs.toList.map .val) := rfl
@[simp] theorem AF.ev_pointer (F : AF) (a : Option Addr) : F.ev (.const (.pointer a)) = .val (.pointer a) := rfl
@[simp] theorem AF.ev_nilFunc (F : AF) : F.ev (.const .nilFunc) = .val .nilFunc := rfl
@[simp] theorem AF.ev_nilIface (F : AF) : F.ev (.const .nilIface) = .val .nilIface := rfl
@[simp] theorem AF.ev_map (F : AF) (r : Option Nat) : F.ev (.const (.map r)) = .val (.map r) := rfl
@[simp] theorem AF.ev_float (F : AF) (k : FloatKind) (n : Nat) : F.ev (.const (.float k n)) = .val (.float k n) := rfl
@[simp] theorem AF.ev_func (F : AF) (f : FuncId) : F.ev (.func f) = .func f [] := rfl
@[simp] theorem AF.ev_global (F : AF) (g : Nat) : F.ev (.global g) = .val (.pointer (some ⟨g, 0, none⟩)) := rfl

/-- The empty slice, nil or not. -/
abbrev PV.nilS : PV := .slice 0 0 []
/-- Rows, frozen. -/
def PV.sl (c sz : Nat) (rows : List (List PV)) : PV := match rows with
  | [] => .nilS
  | r :: rs => .slice c sz (r :: rs)
@[simp] theorem PV.sl_nil (c sz : Nat) : PV.sl c sz [] = .nilS := rfl
abbrev PV.nil : PV := .val (.slice none 0 0)

def szOf (P : Program) (t : TypeId) : Option Nat := (P.info? t).map (·.size)
def zeroOf (P : Program) (t : TypeId) : Option (List PV) := (P.info? t).bind fun i => i.zero.map fun z => z.cells.toList.map .val
def aggOf (P : Program) (t : TypeId) : Option Bool := (P.underlying t).map fun | .struct _ | .array _ _ => true | _ => false
def bytesOf (P : Program) (t : TypeId) : Option Nat := (P.info? t).map (·.bytes)

def PV.cells : PV → List PV
  | .agg cs => cs
  | p => [p]

/-- A value that is one cell for sure. -/
def PV.atomic : PV → Bool
  | .val (.agg _) | .val (.tuple _) | .agg _ | .tuple _ | .junk => false
  | _ => true

/-- A value whose cells can be stored. -/
def PV.okCells : PV → Bool
  | .agg _ => true
  | p => p.atomic

/-- The part of a row at a place. -/
def partOf (P : Program) (t : TypeId) (cells : List PV) (off : Nat) : Option PV :=
  match aggOf P t, szOf P t with
  | some true, some sz => if off + sz ≤ cells.length then some (.agg ((cells.drop off).take sz)) else none
  | some false, _ => cells[off]?
  | _, _ => none

def aload (P : Program) (H : AS) (t : TypeId) (p : PV) : Option PV :=
  match p with
  | .ptr id vl row off => match H.box id with
    | some rows => if rows.length = vl then (rows[row]?).bind fun r => partOf P t r off else none
    | none => none
  | .rptr _ cells => partOf P t cells 0
  | _ => none

def AS.setBox (H : AS) (id : Nat) (rows : List (List PV)) : AS := { H with box := fun i => if i = id then some rows else H.box i }
def AS.kill (H : AS) (id : Nat) : AS := { H with box := fun i => if i = id then none else H.box i }
def AS.setMap (H : AS) (id : Nat) (es : List (Value × PV)) : AS := { H with mp := fun i => if i = id then some es else H.mp i }
def AS.bump (H : AS) (n : Nat) : AS := { H with next := H.next + n }

/-- A row with cells written over. -/
def splice (r : List PV) (off : Nat) (cs : List PV) : List PV := r.take off ++ cs ++ r.drop (off + cs.length)

def astore (P : Program) (H : AS) (t : TypeId) (p v : PV) : Option AS :=
  match p with
  | .ptr id vl row off => match H.box id, szOf P t with
    | some rows, some sz =>
      if rows.length = vl ∧ v.cells.length = sz ∧ v.okCells = true then
        (rows[row]?).bind fun r => if off + sz ≤ r.length then some (H.setBox id (rows.set row (splice r off v.cells))) else none
      else none
    | _, _ => none
  | _ => none

/-- Freezing: what is stored into a list speaks of frozen memory alone. -/
def frz (H : AS) (p : PV) : PV × AS :=
  match p with
  | .val (.slice none 0 0) => (.nilS, H)
  | .msl id len sz => match H.box id with
    | some rows => if rows.length = len then (PV.sl H.color sz rows, H.kill id) else (.msl id len sz, H)
    | none => (.msl id len sz, H)
  | p => (p, H)

def frzL (H : AS) : List PV → List PV × AS
  | [] => ([], H)
  | p :: ps => let (q, H') := frz H p; let (qs, H'') := frzL H' ps; (q :: qs, H'')

def frzR (H : AS) : List (List PV) → List (List PV) × AS
  | [] => ([], H)
  | r :: rs => let (q, H') := frzL H r; let (qs, H'') := frzR H' rs; (q :: qs, H'')

/-- A result, frozen. -/
def frzV (H : AS) : PV → PV × AS
  | .agg cs => let (q, H') := frzL H cs; (.agg q, H')
  | p => frz H p

def frzVs (H : AS) : List PV → List PV × AS
  | [] => ([], H)
  | p :: ps => let (q, H') := frzV H p; let (qs, H'') := frzVs H' ps; (q :: qs, H'')

/-- The rows of a slice that is read. -/
def rowsOf (H : AS) : PV → Option (List (List PV))
  | .val (.slice none 0 0) => some []
  | .slice _ _ rows => some rows
  | .msl id len _ => (H.box id).bind fun rows => if rows.length = len then some rows else none
  | _ => none

@[simp] theorem rowsOf_sl (H : AS) (c sz : Nat) (rows : List (List PV)) : rowsOf H (PV.sl c sz rows) = some rows := by cases rows <;> rfl

def lenOf : PV → Option Nat
  | .val (.slice none 0 0) => some 0
  | .slice _ _ rows => some rows.length
  | .msl _ len _ => some len
  | _ => none
@[simp] theorem lenOf_sl (c sz : Nat) (rows : List (List PV)) : lenOf (PV.sl c sz rows) = some rows.length := by cases rows <;> rfl

/-- The address of an element. -/
def aindex (sz : Nat) (x : PV) (i : Int) : Option PV :=
  match x with
  | .slice c s rows => if s = sz ∧ 0 ≤ i then (rows[i.toNat]?).map (.rptr c) else none
  | .msl id len s => if s = sz ∧ 0 ≤ i ∧ i.toNat < len then some (.ptr id len i.toNat 0) else none
  | _ => none
theorem aindex_sl (c sz : Nat) (rows : List (List PV)) (i : Int) (h0 : 0 ≤ i) {r : List PV} (h : rows[i.toNat]? = some r) : aindex sz (PV.sl c sz rows) i = some (.rptr c r) := by
  cases rows with
  | nil => simp at h
  | cons a l => simp [PV.sl, aindex, h0, h]

/-- A cut of a slice. -/
def acut (x : PV) (lo hi : Option Int) : Option PV :=
  match x with
  | .val (.slice none 0 0) => if lo.getD 0 = 0 ∧ hi.getD 0 = 0 then some .nil else none
  | .slice c sz rows =>
    let l := lo.getD 0
    let h := hi.getD rows.length
    if 0 ≤ l ∧ l ≤ h ∧ h ≤ rows.length then some (PV.sl c sz ((rows.take h.toNat).drop l.toNat)) else none
  | .val (.string s) =>
    let l := lo.getD 0
    let h := hi.getD s.size
    if 0 ≤ l ∧ l ≤ h ∧ h ≤ s.size then some (.val (.string (s.extract l.toNat h.toNat))) else none
  | _ => none

end Go.Abs
