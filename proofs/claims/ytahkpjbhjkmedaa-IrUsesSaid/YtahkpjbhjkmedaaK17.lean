/- The abstract layer, part 17: the same, told for simp: one operation at a time, and nothing is looked at before its time. -/
import Derived.Test.YtahkpjbhjkmedaaK16
namespace Go.Abs
set_option autoImplicit false
set_option linter.unusedSimpArgs false

/-- What follows, kept where simp does not look. -/
class Kont (α : Sort _) where
  run : α

section
variable {α : Type}

def obind (x : Option α) [k : Kont (α → Prop)] : Prop := match x with
  | some a => k.run a
  | none => False
@[simp] theorem obind_some (a : α) (k : α → Prop) : @obind _ (some a) ⟨k⟩ = k a := _root_.id rfl
@[simp] theorem obind_none (k : α → Prop) : @obind α none ⟨k⟩ = False := _root_.id rfl
def oelse (x : Option α) [k : Kont (α → Prop)] [e : Kont Prop] : Prop := match x with
  | some a => k.run a
  | none => e.run
@[simp] theorem oelse_some (a : α) (k : α → Prop) (e : Prop) : @oelse _ (some a) ⟨k⟩ ⟨e⟩ = k a := _root_.id rfl
@[simp] theorem oelse_none (k : α → Prop) (e : Prop) : @oelse α none ⟨k⟩ ⟨e⟩ = e := _root_.id rfl
def gcond (b : Bool) [A : Kont Prop] [B : Kont Prop] : Prop := match b with
  | true => A.run
  | false => B.run
@[simp] theorem gcond_true (A B : Prop) : @gcond true ⟨A⟩ ⟨B⟩ = A := _root_.id rfl
@[simp] theorem gcond_false (A B : Prop) : @gcond false ⟨A⟩ ⟨B⟩ = B := _root_.id rfl
def strict (a : α) [k : Kont (α → Prop)] : Prop := k.run a
@[simp] theorem strict_eq (a : α) (k : α → Prop) : @strict _ a ⟨k⟩ = k a := _root_.id rfl
def boolOf (p : PV) [k : Kont (Bool → Prop)] : Prop := match p with
  | .val (.bool b) => k.run b
  | _ => False
@[simp] theorem boolOf_bool (b : Bool) (k : Bool → Prop) : @boolOf (.val (.bool b)) ⟨k⟩ = k b := _root_.id rfl
def funcOf (p : PV) [k : Kont (FuncId → List PV → Prop)] : Prop := match p with
  | .func g caps => k.run g caps
  | _ => False
@[simp] theorem funcOf_func (g : FuncId) (caps : List PV) (k : FuncId → List PV → Prop) : @funcOf (.func g caps) ⟨k⟩ = k g caps := _root_.id rfl
/-- What follows a test against nil. -/
def nilK (op : BinOp) (bs : List Bool) (y : Operand) [k : Kont (Bool → Prop)] : Prop := match op, bs with
  | .eql, b :: bs => (y matches .const _) = true ∧ ∀ r ∈ b :: bs, k.run r
  | .neq, b :: bs => (y matches .const _) = true ∧ ∀ r ∈ b :: bs, k.run (!r)
  | _, _ => False
@[simp] theorem nilK_eql1 (b : Bool) (v : Value) (k : Bool → Prop) : @nilK .eql [b] (.const v) ⟨k⟩ = k b := by simp [nilK]
@[simp] theorem nilK_neq1 (b : Bool) (v : Value) (k : Bool → Prop) : @nilK .neq [b] (.const v) ⟨k⟩ = k (!b) := by simp [nilK]
@[simp] theorem nilK_eql2 (v : Value) (k : Bool → Prop) : @nilK .eql [true, false] (.const v) ⟨k⟩ = (k true ∧ k false) := by simp [nilK, and_comm]
@[simp] theorem nilK_neq2 (v : Value) (k : Bool → Prop) : @nilK .neq [true, false] (.const v) ⟨k⟩ = (k false ∧ k true) := by simp [nilK, and_comm]
/-- A call, and what follows. -/
def callK (P : Program) (f : FuncId) (args : List PV) (H : AS) [k : Kont (PV → AS → Prop)] : Prop := ACalls P f args H k.run
theorem callK.of {P : Program} {f : FuncId} {args : List PV} {H : AS} {k k0 : PV → AS → Prop} (h : ACalls P f args H k0) (hk : ∀ q H', k0 q H' → k q H') : @callK P f args H ⟨k⟩ := h.mono hk
def appendK (P : Program) (H : AS) (s t : TypeId) (x y : PV) [k : Kont (PV → AS → Prop)] : Prop := aappend P H s t x y k.run
theorem appendK.of {P : Program} {H : AS} {s t : TypeId} {x y : PV} {k : PV → AS → Prop} (h : aappend P H s t x y k) : @appendK P H s t x y ⟨k⟩ := h
theorem appendK_eq {P : Program} {H : AS} {s t : TypeId} {x y : PV} {k : PV → AS → Prop} : @appendK P H s t x y ⟨k⟩ = aappend P H s t x y k := _root_.id rfl
def askK (P : Program) (L : Nat → Prop) (H : AS) (g : FuncId) (args : List PV) [X : Kont (PV → Prop)] : Prop := Ask P L H g args X.run
theorem askK.of {P : Program} {L : Nat → Prop} {H : AS} {g : FuncId} {args : List PV} {X : PV → Prop} (q : AS → PV) (hq : ∀ H', Same L H H' → q H' = q H) (hc : ∀ H', Same L H H' → ACalls P g args H' fun r H'' => r = q H' ∧ H'' = H') (hX : X (q H)) : @askK P L H g args ⟨X⟩ := Ask.of q hq hc hX
end

section
variable {P : Program} {F : AF} {H : AS} {k : PV → AS → Prop} {d : Option Tmp} {ty : TypeId} {pos : String} {af : Array Edge} {g : Option (Nat × Bool)}

theorem ex_pure {o : Oper} {x : Option PV} (h : aPure P F o = x) (hk : match o.op with
  | .move _ | .assign _ | .pick .. | .build .. | .nilCheck _ | .unOp .. | .convert .. | .makeInterface .. | .makeFunc .. | .slice .. | .fieldAddr .. | .field .. | .indexAddr .. | .index .. | .extract .. => True
  | .call { callee := .builtin .len, .. } => True
  | _ => False) : aOp P F H o k = @obind _ x ⟨fun q => k q H⟩ := by
  obtain ⟨dst, op, t, po, aft, gu⟩ := o
  subst h
  cases op <;> first | exact hk.elim | skip
  all_goals try (unfold aOp obind; dsimp only; split <;> rename_i e <;> rw [e])
  rename_i c
  obtain ⟨callee, args, tys⟩ := c
  cases callee <;> first | exact hk.elim | skip
  rename_i b
  cases b <;> first | exact hk.elim | skip
  unfold aOp obind; dsimp only; split <;> rename_i e <;> rw [e]

theorem ex_move (x : Operand) : aOp P F H ⟨d, .move x, ty, pos, af, g⟩ k = @strict _ (F.ev x) ⟨fun q => k q H⟩ := _root_.id rfl
theorem ex_assign (x : Operand) : aOp P F H ⟨d, .assign x, ty, pos, af, g⟩ k = @strict _ (F.ev x) ⟨fun q => k q H⟩ := _root_.id rfl
theorem ex_pick (c a b : Operand) : aOp P F H ⟨d, .pick c a b, ty, pos, af, g⟩ k = @boolOf (F.ev c) ⟨fun t => @strict _ (PV.sel t (F.ev a) (F.ev b)) ⟨fun q => k q H⟩⟩ := by
  rw [ex_pure rfl trivial]; simp only [aPure]; unfold boolOf strict; split <;> simp_all
theorem ex_build (t : TypeId) (ps : Array (Nat × Operand)) : aOp P F H ⟨d, .build t ps, ty, pos, af, g⟩ k = @obind _ (aBuild P t (ps.toList.map fun x => (x.1, F.ev x.2))) ⟨fun q => k q H⟩ := id (ex_pure rfl trivial)
theorem ex_nilCheck (x : Operand) : aOp P F H ⟨d, .nilCheck x, ty, pos, af, g⟩ k = @obind _ (match F.ev x with
    | .ptr id vl row off => some (.ptr id vl row off)
    | .rptr c cells => some (.rptr c cells)
    | .func f caps => some (.func f caps)
    | .iface t p => some (.iface t p)
    | _ => none) ⟨fun q => k q H⟩ := id (ex_pure rfl trivial)
theorem ex_unOp (op : UnOp) (t : TypeId) (x : Operand) : aOp P F H ⟨d, .unOp op t x, ty, pos, af, g⟩ k = @obind _ (aUn op (F.ev x)) ⟨fun q => k q H⟩ := id (ex_pure rfl trivial)
theorem ex_convert (s t : TypeId) (x : Operand) : aOp P F H ⟨d, .convert s t x, ty, pos, af, g⟩ k = @obind _ (aConvert P s t (F.ev x)) ⟨fun q => k q H⟩ := id (ex_pure rfl trivial)
theorem ex_makeInterface (t : TypeId) (x : Operand) : aOp P F H ⟨d, .makeInterface t x, ty, pos, af, g⟩ k = @obind _ (match P.underlying t with
    | some (.interface _) => none
    | some _ => some (.iface t (F.ev x))
    | none => none) ⟨fun q => k q H⟩ := id (ex_pure rfl trivial)
theorem ex_makeFunc (f : FuncId) (first caps : Array Operand) : aOp P F H ⟨d, .makeFunc (.func f) first caps, ty, pos, af, g⟩ k = @obind _ (if first.size = 0 then some (.func f (caps.toList.map F.ev)) else none) ⟨fun q => k q H⟩ := id (ex_pure rfl trivial)
theorem ex_slice (t : TypeId) (x : Operand) (lo hi : Option Operand) : aOp P F H ⟨d, .slice t x lo hi none, ty, pos, af, g⟩ k = @obind _ (aCutOp P t (F.ev x) (lo.map F.ev) (hi.map F.ev)) ⟨fun q => k q H⟩ := id (ex_pure rfl trivial)
theorem ex_fieldAddr (t : TypeId) (x : Operand) (i : Nat) : aOp P F H ⟨d, .fieldAddr t x i, ty, pos, af, g⟩ k = @obind _ (aFieldAddr P t (F.ev x) i) ⟨fun q => k q H⟩ := id (ex_pure rfl trivial)
theorem ex_field (t : TypeId) (x : Operand) (i : Nat) : aOp P F H ⟨d, .field t x i, ty, pos, af, g⟩ k = @obind _ (aField P t (F.ev x) i) ⟨fun q => k q H⟩ := id (ex_pure rfl trivial)
theorem ex_indexAddr (t : TypeId) (x i : Operand) : aOp P F H ⟨d, .indexAddr t x i, ty, pos, af, g⟩ k = @obind _ (aIndexAddr P t (F.ev x) (F.ev i)) ⟨fun q => k q H⟩ := id (ex_pure rfl trivial)
theorem ex_index (t : TypeId) (x i : Operand) : aOp P F H ⟨d, .index t x i, ty, pos, af, g⟩ k = @obind _ (aIndex P t (F.ev x) (F.ev i)) ⟨fun q => k q H⟩ := id (ex_pure rfl trivial)
theorem ex_extract (x : Operand) (i : Nat) : aOp P F H ⟨d, .extract x i, ty, pos, af, g⟩ k = @obind _ (aExtract (F.ev x) i) ⟨fun q => k q H⟩ := id (ex_pure rfl trivial)
theorem ex_len (x : Operand) (t : TypeId) : aOp P F H ⟨d, .call ⟨.builtin .len, #[x], #[t]⟩, ty, pos, af, g⟩ k = @obind _ (aLen P t (F.ev x)) ⟨fun q => k q H⟩ := id (ex_pure rfl trivial)
theorem ex_binOp (op : BinOp) (t : TypeId) (x y : Operand) (yt : TypeId) : aOp P F H ⟨d, .binOp op t x y yt, ty, pos, af, g⟩ k = @oelse _ (aBin P op t (F.ev x) (F.ev y)) ⟨fun q => k q H⟩ ⟨@nilK op (aNilTest P t (F.ev x) (F.ev y)) y ⟨fun r => k (.val (.bool r)) H⟩⟩ := by
  unfold aOp oelse
  simp only [aPure]
  cases e : aBin P op t (F.ev x) (F.ev y) with
  | some q => rfl
  | none =>
    dsimp only
    unfold nilK
    cases op <;> cases e2 : aNilTest P t (F.ev x) (F.ev y) <;> rfl
theorem ex_alloc (t : TypeId) : aOp P F H ⟨d, .alloc t, ty, pos, af, g⟩ k = @obind _ (aalloc P H t) ⟨fun r => k r.1 r.2⟩ := by
  unfold aOp obind; dsimp only; cases e : aalloc P H t <;> rfl
theorem ex_box (t : TypeId) (x : Operand) : aOp P F H ⟨d, .box t x, ty, pos, af, g⟩ k = @obind _ (abox H (F.ev x)) ⟨fun r => k r.1 r.2⟩ := by
  unfold aOp obind; dsimp only; cases e : abox H (F.ev x) <;> rfl
theorem ex_buildSlice (t : TypeId) (l : Nat) (ps : Array (Nat × Operand)) : aOp P F H ⟨d, .buildSlice t l ps, ty, pos, af, g⟩ k = @obind _ (abuildSlice P H t l (ps.toList.map fun x => (x.1, F.ev x.2))) ⟨fun r => k r.1 r.2⟩ := by
  unfold aOp obind; dsimp only; cases e : abuildSlice P H t l (ps.toList.map fun x => (x.1, F.ev x.2)) <;> rfl
theorem ex_load (t : TypeId) (a : Operand) : aOp P F H ⟨d, .load t a, ty, pos, af, g⟩ k = @obind _ (aload P H t (F.ev a)) ⟨fun q => k q H⟩ := by
  unfold aOp obind; dsimp only; cases e : aload P H t (F.ev a) <;> rfl
theorem ex_store (t : TypeId) (a x : Operand) : aOp P F H ⟨d, .store t a x, ty, pos, af, g⟩ k = @obind _ (astore P H t (F.ev a) (F.ev x)) ⟨fun H' => k (.val undef) H'⟩ := by
  unfold aOp obind; dsimp only; cases e : astore P H t (F.ev a) (F.ev x) <;> rfl
theorem ex_call (f : Operand) (args : Array Operand) (tys : Array TypeId) : aOp P F H ⟨d, .call ⟨.value f, args, tys⟩, ty, pos, af, g⟩ k = @funcOf (F.ev f) ⟨fun h caps => @callK P h (args.toList.map F.ev ++ caps) H ⟨k⟩⟩ := by
  unfold aOp funcOf; dsimp only; cases e : F.ev f <;> rfl
theorem ex_append (x y : Operand) (s t : TypeId) : aOp P F H ⟨d, .call ⟨.builtin .append, #[x, y], #[s, t]⟩, ty, pos, af, g⟩ k = @appendK P H s t (F.ev x) (F.ev y) ⟨k⟩ := _root_.id rfl

variable {ops : Array Oper} {rest : List Oper} {K : AF → AS → Prop}

theorem ex_nil : aList P ops [] F H K = K F H := _root_.id rfl
theorem ex_cons {op : Op} : aList P ops (⟨d, op, ty, pos, af, none⟩ :: rest) F H K = aOp P F H ⟨d, op, ty, pos, af, none⟩ fun q H' => aList P ops rest (F.put d q) H' K := _root_.id rfl
theorem ex_guard {op : Op} (j : Nat) (want : Bool) : aList P ops (⟨d, op, ty, pos, af, some (j, want)⟩ :: rest) F H K = @obind _ ((ops[j]?).bind (·.dst)) ⟨fun t => @boolOf (F t) ⟨fun b => @gcond (b == want) ⟨aList P ops (⟨d, op, ty, pos, af, none⟩ :: rest) F H K⟩ ⟨aList P ops rest (F.put d (.val undef)) H K⟩⟩⟩ := by
  simp only [aList]
  cases e : (ops[j]?).bind (·.dst) with
  | none => rfl
  | some t =>
    unfold boolOf
    simp only [obind_some]
    have this : ∀ k, aOp P F H ⟨d, op, ty, pos, af, some (j, want)⟩ k = aOp P F H ⟨d, op, ty, pos, af, none⟩ k := fun k => by
      unfold aOp aPure; rfl
    rw [this]
    generalize F t = p
    by_cases hb : ∃ b, p = .val (.bool b)
    · obtain ⟨b, rfl⟩ := hb
      cases b <;> cases want <;> simp [aList]
    · split
      · exact absurd ⟨_, rfl⟩ hb
      · split
        · exact absurd ⟨_, rfl⟩ hb
        · rfl

variable {L : Nat → Prop} {late : List Nat}

def wkF (P : Program) (ops : Array Oper) (L : Nat → Prop) (late : List Nat) (o : Oper) (c : Ord) (F : AF) (H : AS) (K : AF → AS → Prop) : Prop :=
  match aPure P F o with
          | some q => aWalk P ops L late c (F.put o.dst q) H K
          | none => match o.op with
            | .load t a => match F.ev a with
              | .rptr _ cells => match partOf P t cells 0 with
                | some q => aWalk P ops L late c (F.put o.dst q) H K
                | none => False
              | .ptr id vl row off => match aload P H t (.ptr id vl row off) with
                | some q => L id ∧ aWalk P ops L late c (F.put o.dst q) H K
                | none => False
              | _ => False
            | .call { callee := .value f, args, .. } => match F.ev f with
              | .func g caps => Ask P L H g (args.toList.map F.ev ++ caps) fun q => aWalk P ops L late c (F.put o.dst q) H K
              | _ => False
            | .binOp op t x y _ => match op, aNilTest P t (F.ev x) (F.ev y) with
              | .eql, [b] => (y matches .const _) = true ∧ aWalk P ops L late c (F.put o.dst (.val (.bool b))) H K
              | .neq, [b] => (y matches .const _) = true ∧ aWalk P ops L late c (F.put o.dst (.val (.bool (!b)))) H K
              | _, _ => False
            | _ => False

theorem wk_done : aWalk P ops L late .done F H K = K F H := _root_.id rfl
theorem wk_free (i : Nat) (c : Ord) : aWalk P ops L late (.free i c) F H K = @obind _ ops[i]? ⟨fun o => @obind _ (aWanted ops F o) ⟨fun b => @gcond b ⟨wkF P ops L late o c F H K⟩ ⟨aWalk P ops L late c (F.put o.dst (.val undef)) H K⟩⟩⟩ := by
  simp only [aWalk]
  cases e : ops[i]? with
  | none => rfl
  | some o =>
    simp only [obind_some]
    cases e2 : aWanted ops F o with
    | none => rfl
    | some b => cases b <;> rfl
theorem aStep_eq (i : Nat) (k : AF → AS → Prop) : aStep P ops i F H k = @oelse _ ops[i]? ⟨fun o => @obind _ (aWanted ops F o) ⟨fun b => @gcond b ⟨aOp P F H o fun q H' => k (F.put o.dst q) H'⟩ ⟨k (F.put o.dst (.val undef)) H⟩⟩⟩ ⟨k F H⟩ := by
  unfold aStep
  cases e : ops[i]? with
  | none => rfl
  | some o =>
    simp only [oelse_some]
    cases e2 : aWanted ops F o with
    | none => rfl
    | some b => cases b <;> rfl
theorem wk_sole (i : Nat) (c : Ord) : aWalk P ops L late (.sole i c) F H K = @oelse _ ops[i]? ⟨fun o => @obind _ (aWanted ops F o) ⟨fun b => @gcond b ⟨aOp P F H o fun q H' => Keeps L late i H H' ∧ aWalk P ops L late c (F.put o.dst q) H' K⟩ ⟨Keeps L late i H H ∧ aWalk P ops L late c (F.put o.dst (.val undef)) H K⟩⟩⟩ ⟨Keeps L late i H H ∧ aWalk P ops L late c F H K⟩ := by
  simp only [aWalk, aStep_eq]
theorem wk_two (i j : Nat) (c e : Ord) : aWalk P ops L late (.two i j c e) F H K = (aStep P ops i F H (fun F' H' => Keeps L late i H H' ∧ aWalk P ops L late c F' H' K) ∧ aStep P ops j F H (fun F' H' => Keeps L late j H H' ∧ aWalk P ops L late e F' H' K)) := _root_.id rfl

theorem wanted_none {op : Op} : aWanted ops F ⟨d, op, ty, pos, af, none⟩ = some true := _root_.id rfl
theorem wanted_some {op : Op} (j : Nat) (want : Bool) : aWanted ops F ⟨d, op, ty, pos, af, some (j, want)⟩ = ((ops[j]?).bind (·.dst)).bind fun t => match F t with
      | .val (.bool b) => some (b == want)
      | _ => none := by
  unfold aWanted; dsimp only; cases e : (ops[j]?).bind (·.dst) <;> rfl

theorem wk_pure {o : Oper} {c : Ord} {x : Option PV} (h : aPure P F o = x) (hk : match o.op with | .load .. | .binOp .. | .call { callee := .value _, .. } => False | _ => True) : wkF P ops L late o c F H K = @obind _ x ⟨fun q => aWalk P ops L late c (F.put o.dst q) H K⟩ := by
  obtain ⟨dst, op, t, po, aft, gu⟩ := o
  subst h
  unfold wkF obind
  cases e : aPure P F ⟨dst, op, t, po, aft, gu⟩ with
  | some q => rfl
  | none =>
    cases op <;> first | rfl | exact hk.elim | skip
    rename_i c
    obtain ⟨callee, args, tys⟩ := c
    cases callee <;> first | rfl | exact hk.elim

theorem wk_move (x : Operand) (c : Ord) : wkF P ops L late ⟨d, .move x, ty, pos, af, g⟩ c F H K = @strict _ (F.ev x) ⟨fun q => aWalk P ops L late c (F.put d q) H K⟩ := _root_.id rfl
theorem wk_assign (x : Operand) (c : Ord) : wkF P ops L late ⟨d, .assign x, ty, pos, af, g⟩ c F H K = @strict _ (F.ev x) ⟨fun q => aWalk P ops L late c (F.put d q) H K⟩ := _root_.id rfl
theorem wk_pick (t a b : Operand) (c : Ord) : wkF P ops L late ⟨d, .pick t a b, ty, pos, af, g⟩ c F H K = @boolOf (F.ev t) ⟨fun t => @strict _ (PV.sel t (F.ev a) (F.ev b)) ⟨fun q => aWalk P ops L late c (F.put d q) H K⟩⟩ := by
  rw [wk_pure rfl trivial]; simp only [aPure]; unfold boolOf strict; split <;> simp_all
theorem wk_build (t : TypeId) (ps : Array (Nat × Operand)) (c : Ord) : wkF P ops L late ⟨d, .build t ps, ty, pos, af, g⟩ c F H K = @obind _ (aBuild P t (ps.toList.map fun x => (x.1, F.ev x.2))) ⟨fun q => aWalk P ops L late c (F.put d q) H K⟩ := wk_pure rfl trivial
theorem wk_nilCheck (x : Operand) (c : Ord) : wkF P ops L late ⟨d, .nilCheck x, ty, pos, af, g⟩ c F H K = @obind _ (match F.ev x with
    | .ptr id vl row off => some (.ptr id vl row off)
    | .rptr c cells => some (.rptr c cells)
    | .func f caps => some (.func f caps)
    | .iface t p => some (.iface t p)
    | _ => none) ⟨fun q => aWalk P ops L late c (F.put d q) H K⟩ := wk_pure rfl trivial
theorem wk_unOp (op : UnOp) (t : TypeId) (x : Operand) (c : Ord) : wkF P ops L late ⟨d, .unOp op t x, ty, pos, af, g⟩ c F H K = @obind _ (aUn op (F.ev x)) ⟨fun q => aWalk P ops L late c (F.put d q) H K⟩ := wk_pure rfl trivial
theorem wk_convert (s t : TypeId) (x : Operand) (c : Ord) : wkF P ops L late ⟨d, .convert s t x, ty, pos, af, g⟩ c F H K = @obind _ (aConvert P s t (F.ev x)) ⟨fun q => aWalk P ops L late c (F.put d q) H K⟩ := wk_pure rfl trivial
theorem wk_makeInterface (t : TypeId) (x : Operand) (c : Ord) : wkF P ops L late ⟨d, .makeInterface t x, ty, pos, af, g⟩ c F H K = @obind _ (match P.underlying t with
    | some (.interface _) => none
    | some _ => some (.iface t (F.ev x))
    | none => none) ⟨fun q => aWalk P ops L late c (F.put d q) H K⟩ := wk_pure rfl trivial
theorem wk_slice (t : TypeId) (x : Operand) (lo hi : Option Operand) (c : Ord) : wkF P ops L late ⟨d, .slice t x lo hi none, ty, pos, af, g⟩ c F H K = @obind _ (aCutOp P t (F.ev x) (lo.map F.ev) (hi.map F.ev)) ⟨fun q => aWalk P ops L late c (F.put d q) H K⟩ := wk_pure rfl trivial
theorem wk_fieldAddr (t : TypeId) (x : Operand) (i : Nat) (c : Ord) : wkF P ops L late ⟨d, .fieldAddr t x i, ty, pos, af, g⟩ c F H K = @obind _ (aFieldAddr P t (F.ev x) i) ⟨fun q => aWalk P ops L late c (F.put d q) H K⟩ := wk_pure rfl trivial
theorem wk_field (t : TypeId) (x : Operand) (i : Nat) (c : Ord) : wkF P ops L late ⟨d, .field t x i, ty, pos, af, g⟩ c F H K = @obind _ (aField P t (F.ev x) i) ⟨fun q => aWalk P ops L late c (F.put d q) H K⟩ := wk_pure rfl trivial
theorem wk_indexAddr (t : TypeId) (x i : Operand) (c : Ord) : wkF P ops L late ⟨d, .indexAddr t x i, ty, pos, af, g⟩ c F H K = @obind _ (aIndexAddr P t (F.ev x) (F.ev i)) ⟨fun q => aWalk P ops L late c (F.put d q) H K⟩ := wk_pure rfl trivial
theorem wk_index (t : TypeId) (x i : Operand) (c : Ord) : wkF P ops L late ⟨d, .index t x i, ty, pos, af, g⟩ c F H K = @obind _ (aIndex P t (F.ev x) (F.ev i)) ⟨fun q => aWalk P ops L late c (F.put d q) H K⟩ := wk_pure rfl trivial
theorem wk_extract (x : Operand) (i : Nat) (c : Ord) : wkF P ops L late ⟨d, .extract x i, ty, pos, af, g⟩ c F H K = @obind _ (aExtract (F.ev x) i) ⟨fun q => aWalk P ops L late c (F.put d q) H K⟩ := wk_pure rfl trivial
theorem wk_len (x : Operand) (t : TypeId) (c : Ord) : wkF P ops L late ⟨d, .call ⟨.builtin .len, #[x], #[t]⟩, ty, pos, af, g⟩ c F H K = @obind _ (aLen P t (F.ev x)) ⟨fun q => aWalk P ops L late c (F.put d q) H K⟩ := wk_pure rfl trivial

/-- A load whose place others leave alone. -/
def loadK (P : Program) (L : Nat → Prop) (H : AS) (t : TypeId) (p : PV) [k : Kont (PV → Prop)] : Prop := match p with
  | .rptr _ cells => obind (partOf P t cells 0)
  | .ptr id vl row off => L id ∧ obind (aload P H t (.ptr id vl row off))
  | _ => False
@[simp] theorem loadK_rptr (t : TypeId) (c : Nat) (cells : List PV) (k : PV → Prop) : @loadK P L H t (.rptr c cells) ⟨k⟩ = @obind _ (partOf P t cells 0) ⟨k⟩ := _root_.id rfl
@[simp] theorem loadK_ptr (t : TypeId) (id vl row off : Nat) (k : PV → Prop) : @loadK P L H t (.ptr id vl row off) ⟨k⟩ = (L id ∧ @obind _ (aload P H t (.ptr id vl row off)) ⟨k⟩) := _root_.id rfl

theorem wk_load (t : TypeId) (a : Operand) (c : Ord) : wkF P ops L late ⟨d, .load t a, ty, pos, af, g⟩ c F H K = @loadK P L H t (F.ev a) ⟨fun q => aWalk P ops L late c (F.put d q) H K⟩ := by
  unfold wkF loadK
  simp only [aPure]
  cases e : F.ev a <;> simp only []
  · rename_i id vl row off
    cases e2 : aload P H t (.ptr id vl row off) <;> simp
  · rename_i cc cells
    cases e2 : partOf P t cells 0 <;> simp
theorem wk_call (f : Operand) (args : Array Operand) (tys : Array TypeId) (c : Ord) : wkF P ops L late ⟨d, .call ⟨.value f, args, tys⟩, ty, pos, af, g⟩ c F H K = @funcOf (F.ev f) ⟨fun h caps => @askK P L H h (args.toList.map F.ev ++ caps) ⟨fun q => aWalk P ops L late c (F.put d q) H K⟩⟩ := by
  unfold wkF funcOf; simp only [aPure]; cases F.ev f <;> rfl
theorem wk_binOp (op : BinOp) (t : TypeId) (x y : Operand) (yt : TypeId) (c : Ord) : wkF P ops L late ⟨d, .binOp op t x y yt, ty, pos, af, g⟩ c F H K = @oelse _ (aBin P op t (F.ev x) (F.ev y)) ⟨fun q => aWalk P ops L late c (F.put d q) H K⟩ ⟨match op, aNilTest P t (F.ev x) (F.ev y) with
      | .eql, [b] => (y matches .const _) = true ∧ aWalk P ops L late c (F.put d (.val (.bool b))) H K
      | .neq, [b] => (y matches .const _) = true ∧ aWalk P ops L late c (F.put d (.val (.bool (!b)))) H K
      | _, _ => False⟩ := by
  unfold wkF oelse
  simp only [aPure]
  cases e : aBin P op t (F.ev x) (F.ev y) <;> rfl

theorem T_regionL {n b id : Nat} {Q : Exit → AF → AS → Prop} {l : List Oper} (hok : regionOk n l.toArray = true) (h : aList P l.toArray l F H (Q .normal)) : T P n b (.region id l.toArray false) F H Q := T_region hok h

theorem put_at (F : AF) (e t : Nat) (p : PV) : (F.put (some e) p) t = if t = e then p else F t := _root_.id rfl

end
end Go.Abs
