/- The abstract layer, part 10: one operation; what a call owes. -/
import Derived.Test.YtahkpjbhjkmedaaK9
namespace Go.Abs
set_option autoImplicit false

def RepAll (G : Gh) : List PV → List Value → Prop
  | [], [] => True
  | p :: ps, v :: vs => Rep G p v ∧ RepAll G ps vs
  | _, _ => False

theorem RepAll.of_map {G : Gh} {α : Type} (f : α → PV) (g : α → Value) : ∀ (l : List α), (∀ x ∈ l, Rep G (f x) (g x)) → RepAll G (l.map f) (l.map g)
  | [], _ => trivial
  | x :: l, h => ⟨h x (by simp), RepAll.of_map f g l fun y hy => h y (by simp [hy])⟩

theorem RepAll.append {G : Gh} : ∀ {ps : List PV} {vs : List Value} {qs : List PV} {us : List Value}, RepAll G ps vs → RepAll G qs us → RepAll G (ps ++ qs) (vs ++ us)
  | [], [], _, _, _, h => h
  | _ :: _, _ :: _, _, _, h, h' => ⟨h.1, RepAll.append h.2 h'⟩
  | [], _ :: _, _, _, h, _ => h.elim
  | _ :: _, [], _, _, h, _ => h.elim

theorem RepAll.get {G : Gh} : ∀ {ps : List PV} {vs : List Value}, RepAll G ps vs → ps.length = vs.length ∧ ∀ (j : Nat) (p : PV) (v : Value), ps[j]? = some p → vs[j]? = some v → Rep G p v
  | [], [], _ => ⟨rfl, fun j p v hp => by simp at hp⟩
  | p :: ps, v :: vs, h => by
    obtain ⟨h1, h2⟩ := h.2.get
    refine ⟨by simp [h1], fun j q u hq hu => ?_⟩
    cases j with
    | zero => simp at hq hu; subst hq; subst hu; exact h.1
    | succ j => exact h2 j q u (by simpa using hq) (by simpa using hu)
  | [], _ :: _, h => h.elim
  | _ :: _, [], h => h.elim

theorem RepAll.of_get {G : Gh} : ∀ {ps : List PV} {vs : List Value}, ps.length = vs.length → (∀ (j : Nat) (p : PV) (v : Value), ps[j]? = some p → vs[j]? = some v → Rep G p v) → RepAll G ps vs
  | [], [], _, _ => trivial
  | p :: ps, v :: vs, hl, h => ⟨h 0 p v rfl rfl, RepAll.of_get (by simpa using hl) fun j q u hq hu => h (j + 1) q u (by simpa using hq) (by simpa using hu)⟩
  | [], _ :: _, hl, _ => by simp at hl
  | _ :: _, [], hl, _ => by simp at hl

theorem RepAll.mono {G G' : Gh} (hle : G.le G') : ∀ {ps : List PV} {vs : List Value}, RepAll G ps vs → RepAll G' ps vs
  | [], [], _ => trivial
  | _ :: _, _ :: _, h => ⟨h.1.mono hle, h.2.mono hle⟩
  | [], _ :: _, h => h.elim
  | _ :: _, [], h => h.elim

/-- A call, by its abstract answer. -/
def ACalls (P : Program) (f : FuncId) (args : List PV) (H : AS) (k : PV → AS → Prop) : Prop :=
  (∃ fn, P.funcs[f]? = some fn ∧ fn.body.isSome = true ∧ (fn.name == "runtime.NumGoroutine") = false) ∧
  ∀ (G : Gh) (w : World) (vs : List Value), Rel G H w → RepAll G args vs →
    Calls P f vs.toArray w fun e w' => ∃ v G' q H', e = .returned v ∧ G.le G' ∧ Rel G' H' w' ∧ Rep G' q v ∧ k q H'

theorem ACalls.mono {P : Program} {f : FuncId} {args : List PV} {H : AS} {k k' : PV → AS → Prop} (h : ACalls P f args H k) (hk : ∀ q H', k q H' → k' q H') : ACalls P f args H k' :=
  ⟨h.1, fun G w vs hr ha => (h.2 G w vs hr ha).mono fun _ _ ⟨v, G', q, H', e, l, r, p, hq⟩ => ⟨v, G', q, H', e, l, r, p, hk _ _ hq⟩⟩

/-- A test against nil: what may come out. -/
def aNilTest (P : Program) (t : TypeId) (x y : PV) : List Bool :=
  match P.underlying t, x, y with
  | some (.slice _), .val (.slice none 0 0), .val (.slice none 0 0) => [true]
  | some (.slice _), .slice _ _ [], .val (.slice none 0 0) => [true, false]
  | some (.slice _), .slice _ _ (_ :: _), .val (.slice none 0 0) => [false]
  | some (.slice _), .msl _ _ _, .val (.slice none 0 0) => [false]
  | some (.pointer _), .val (.pointer none), .val (.pointer none) => [true]
  | some (.pointer _), .ptr _ _ _ _, .val (.pointer none) => [false]
  | some (.pointer _), .rptr _ _, .val (.pointer none) => [false]
  | some (.func _ _ _), .val .nilFunc, .val .nilFunc => [true]
  | some (.func _ _ _), .func _ _, .val .nilFunc => [false]
  | some (.interface _), .val .nilIface, .val .nilIface => [true]
  | some (.interface _), .iface _ _, .val .nilIface => [false]
  | _, _, _ => []

def aLen (P : Program) (t : TypeId) (x : PV) : Option PV := match P.underlying t with
  | some .string => match x with
    | .val (.string s) => some (.val (.int .i64 (s.size : Int)))
    | _ => none
  | some (.slice _) => (lenOf x).map fun (m : Nat) => PV.val (.int .i64 (m : Int))
  | some (.array m _) => some (.val (.int .i64 (m : Int)))
  | _ => none

def aPure (P : Program) (F : AF) (o : Oper) : Option PV :=
  match o.op with
  | .move x | .assign x => some (F.ev x)
  | .pick c a b => match F.ev c with
    | .val (.bool t) => some (PV.sel t (F.ev a) (F.ev b))
    | _ => none
  | .build t parts => aBuild P t (parts.toList.map fun x => (x.1, F.ev x.2))
  | .nilCheck x => match F.ev x with
    | .ptr id vl row off => some (.ptr id vl row off)
    | .rptr c cells => some (.rptr c cells)
    | .func f caps => some (.func f caps)
    | .iface t p => some (.iface t p)
    | _ => none
  | .binOp op t x y _ => aBin P op t (F.ev x) (F.ev y)
  | .unOp op _ x => aUn op (F.ev x)
  | .convert s d x => aConvert P s d (F.ev x)
  | .makeInterface t x => match P.underlying t with
    | some (.interface _) => none
    | some _ => some (.iface t (F.ev x))
    | none => none
  | .makeFunc (.func f) first caps => if first.size = 0 then some (.func f (caps.toList.map F.ev)) else none
  | .slice t x lo hi none => aCutOp P t (F.ev x) (lo.map F.ev) (hi.map F.ev)
  | .fieldAddr s x f => aFieldAddr P s (F.ev x) f
  | .field s x f => aField P s (F.ev x) f
  | .indexAddr t x i => aIndexAddr P t (F.ev x) (F.ev i)
  | .index t x i => aIndex P t (F.ev x) (F.ev i)
  | .extract x i => aExtract (F.ev x) i
  | .call { callee := .builtin .len, args, argTypes } => match args.toList, argTypes.toList with
    | [x], [t] => aLen P t (F.ev x)
    | _, _ => none
  | _ => none

/-- One operation: what is asked, and what follows. -/
def aOp (P : Program) (F : AF) (H : AS) (o : Oper) (k : PV → AS → Prop) : Prop :=
  match o.op with
  | .alloc t => match aalloc P H t with
    | some (q, H') => k q H'
    | none => False
  | .box _ x => match abox H (F.ev x) with
    | some (q, H') => k q H'
    | none => False
  | .buildSlice t len parts => match abuildSlice P H t len (parts.toList.map fun x => (x.1, F.ev x.2)) with
    | some (q, H') => k q H'
    | none => False
  | .load t a => match aload P H t (F.ev a) with
    | some q => k q H
    | none => False
  | .store t a x => match astore P H t (F.ev a) (F.ev x) with
    | some H' => k (.val undef) H'
    | none => False
  | .call { callee := .value f, args, .. } => match F.ev f with
    | .func g caps => ACalls P g (args.toList.map F.ev ++ caps) H k
    | _ => False
  | .call { callee := .builtin .append, args, argTypes } => match args.toList, argTypes.toList with
    | [x, y], [s, t] => aappend P H s t (F.ev x) (F.ev y) k
    | _, _ => False
  | .binOp op t x y _ => match aPure P F o with
    | some q => k q H
    | none => match op, aNilTest P t (F.ev x) (F.ev y) with
      | .eql, b :: bs => (y matches .const _) = true ∧ ∀ r ∈ b :: bs, k (.val (.bool r)) H
      | .neq, b :: bs => (y matches .const _) = true ∧ ∀ r ∈ b :: bs, k (.val (.bool (!r))) H
      | _, _ => False
  | _ => match aPure P F o with
    | some q => k q H
    | none => False

/-- The frame as the model holds it. -/
structure RepF (n : Nat) (G : Gh) (F : AF) (a : Act) : Prop where
  defers : a.defers = []
  size : a.tmps.size = n
  rep : ∀ t, Rep G (F t) (a.tmps.getD t undef)

section
variable {P : Program} {G : Gh} {H : AS} {w : World} {n : Nat} {F : AF} {a : Act}

theorem rep_lit (v : Value) : Rep G (PV.lit v) v ∨ (∃ vs, v = .agg vs) := by
  cases v <;> first | exact .inr ⟨_, rfl⟩ | exact .inl (.val _)

/-- Literals of several cells hold cells. -/
def litOk : Operand → Bool
  | .const (.agg vs) => vs.all fun v => v.oneCell'
  | _ => true

theorem RepF.ev (h : RepF n G F a) {x : Operand} (hx : litOk x = true) : Rep G (F.ev x) (a.eval x) := by
  cases x with
  | tmp t => exact h.rep t
  | const v =>
    rcases rep_lit (G := G) v with hr | ⟨vs, rfl⟩
    · exact hr
    · refine .agg (by simp) (fun j u hu => ?_) (fun j p u hp hu => ?_)
      · simp only [litOk, Array.all_eq_true'] at hx
        exact hx u (Array.mem_of_getElem? hu)
      · rw [List.getElem?_map] at hp
        simp only [Option.map_eq_some_iff] at hp
        obtain ⟨q, hq, rfl⟩ := hp
        rw [show u = q by simpa [hu] using hq]
        exact .val _
  | global g => exact .val _
  | func f => exact .func (vs := #[]) rfl (fun j p v hp => by simp at hp)

theorem RepF.mono {G' : Gh} (hle : G.le G') (h : RepF n G F a) : RepF n G' F a := ⟨h.defers, h.size, fun t => (h.rep t).mono hle⟩

theorem RepF.put (h : RepF n G F a) {d : Option Nat} (hd : ∀ x, d = some x → x < n) {p : PV} {v : Value} (hp : Rep G p v) : RepF n G (F.put d p) (a.put d v) := by
  cases d with
  | none => exact h
  | some x =>
    refine ⟨h.defers, by simp [Act.put, h.size], fun t => ?_⟩
    have hx := hd x rfl
    by_cases e : t = x
    · subst e
      simp only [AF.put, Act.put, if_true]
      rw [show (a.tmps.setIfInBounds t v).getD t undef = v by simp [Array.getD_eq_getD_getElem?, h.size, hx]]
      exact hp
    · simp only [AF.put, Act.put, if_neg e]
      rw [show (a.tmps.setIfInBounds x v).getD t undef = a.tmps.getD t undef by simp [Array.getD_eq_getD_getElem?, Array.getElem?_setIfInBounds_ne (Ne.symm e)]]
      exact h.rep t

end
end Go.Abs
