/- Texts of ours, merged: the abstract layer, the walks over the loaded functions, the plain laws. -/
import Derived.Test.YthabhakehajjnaaGreatDoorA1
import Derived.Laws.Externs
import Derived.ScopeJumps
import Derived.ProofKit
import Derived.SizedLaws
namespace Go.Abs
set_option autoImplicit false
set_option linter.all false
set_option maxRecDepth 100000
set_option maxHeartbeats 40000000
def RepAll (G : Gh) : List PV → List Value → Prop
  | [], [] => True
  | p :: ps, v :: vs => Rep G p v ∧ RepAll G ps vs
  | _, _ => False
theorem RepAll.of_map {G : Gh} {α : Type} (f : α → PV) (g : α → Value) : ∀ (l : List α), (∀ x ∈ l, Rep G (f x) (g x)) → RepAll G (l.map f) (l.map g)
  | [], _ => trivial
  | x :: l, h => ⟨h x (by simp), RepAll.of_map f g l fun y hy => h y (by simp [hy])⟩
theorem RepAll.append {G : Gh} : ∀ {ps : List PV} {vs : List Value} {qs : List PV} {us : List Value}, RepAll G ps vs → RepAll G qs us → RepAll G (ps ++ qs) (vs ++ us)
  | [], [], _, _, _, h => h
  | _ :: _, _ :: _, _, _, h, h' => ⟨h.1, RepAll.append h.2 h'⟩
  | [], _ :: _, _, _, h, _ => h.elim
  | _ :: _, [], _, _, h, _ => h.elim
theorem RepAll.get {G : Gh} : ∀ {ps : List PV} {vs : List Value}, RepAll G ps vs → ps.length = vs.length ∧ ∀ (j : Nat) (p : PV) (v : Value), ps[j]? = some p → vs[j]? = some v → Rep G p v
  | [], [], _ => ⟨rfl, fun j p v hp => by simp at hp⟩
  | p :: ps, v :: vs, h => by
    obtain ⟨h1, h2⟩ := h.2.get
    refine ⟨by simp [h1], fun j q u hq hu => ?_⟩
    cases j with
    | zero => simp at hq hu; subst hq; subst hu; exact h.1
    | succ j => exact h2 j q u (by simpa using hq) (by simpa using hu)
  | [], _ :: _, h => h.elim
  | _ :: _, [], h => h.elim
theorem RepAll.of_get {G : Gh} : ∀ {ps : List PV} {vs : List Value}, ps.length = vs.length → (∀ (j : Nat) (p : PV) (v : Value), ps[j]? = some p → vs[j]? = some v → Rep G p v) → RepAll G ps vs
  | [], [], _, _ => trivial
  | p :: ps, v :: vs, hl, h => ⟨h 0 p v rfl rfl, RepAll.of_get (by simpa using hl) fun j q u hq hu => h (j + 1) q u (by simpa using hq) (by simpa using hu)⟩
  | [], _ :: _, hl, _ => by simp at hl
  | _ :: _, [], hl, _ => by simp at hl
theorem RepAll.mono {G G' : Gh} (hle : G.le G') : ∀ {ps : List PV} {vs : List Value}, RepAll G ps vs → RepAll G' ps vs
  | [], [], _ => trivial
  | _ :: _, _ :: _, h => ⟨h.1.mono hle, h.2.mono hle⟩
  | [], _ :: _, h => h.elim
  | _ :: _, [], h => h.elim
/-- A call of a function that has Go text, by its abstract answer. -/
def BCalls (P : Program) (f : FuncId) (args : List PV) (H : AS) (k : PV → AS → Prop) : Prop :=
  (∃ fn, P.funcs[f]? = some fn ∧ fn.body.isSome = true ∧ (fn.name == "runtime.NumGoroutine") = false) ∧
  ∀ (G : Gh) (w : World) (vs : List Value), Rel G H w → RepAll G args vs →
    Calls P f vs.toArray w fun e w' => ∃ v G' q H', e = .returned v ∧ G.le G' ∧ Rel G' H' w' ∧ Rep G' q v ∧ k q H'
/-- A call of a function that the model has by itself. -/
def XCalls (P : Program) (f : FuncId) (args : List PV) (H : AS) (k : PV → AS → Prop) : Prop :=
  ∃ fn e, P.funcs[f]? = some fn ∧ (fn.name == "runtime.NumGoroutine") = false ∧ fn.body.isNone = true ∧ Extern.findNext fn = none ∧ Extern.find fn = some e ∧
  ∀ (G : Gh) (w : World) (vs : List Value), Rel G H w → RepAll G args vs →
    ∃ v w' G' q H', (e vs.toArray).run P w = .ok v w' ∧ G.le G' ∧ Rel G' H' w' ∧ Rep G' q v ∧ k q H'
/-- A call, by its abstract answer. -/
def ACalls (P : Program) (f : FuncId) (args : List PV) (H : AS) (k : PV → AS → Prop) : Prop := BCalls P f args H k ∨ XCalls P f args H k
theorem ACalls.mono {P : Program} {f : FuncId} {args : List PV} {H : AS} {k k' : PV → AS → Prop} (h : ACalls P f args H k) (hk : ∀ q H', k q H' → k' q H') : ACalls P f args H k' := by
  rcases h with h | ⟨fn, e, h1, h2, h3, h4, h5, h⟩
  · exact .inl ⟨h.1, fun G w vs hr ha => (h.2 G w vs hr ha).mono fun _ _ ⟨v, G', q, H', e, l, r, p, hq⟩ => ⟨v, G', q, H', e, l, r, p, hk _ _ hq⟩⟩
  · refine .inr ⟨fn, e, h1, h2, h3, h4, h5, fun G w vs hr ha => ?_⟩
    obtain ⟨v, w', G', q, H', a, b, c, d, hq⟩ := h G w vs hr ha
    exact ⟨v, w', G', q, H', a, b, c, d, hk _ _ hq⟩
/-- The call of a function with Go text. -/
theorem ACalls.text {P : Program} {f : FuncId} {fn : Func} {args : List PV} {H : AS} {k : PV → AS → Prop} (h : ACalls P f args H k) (hf : P.funcs[f]? = some fn) (hb : fn.body.isSome = true) : BCalls P f args H k := by
  rcases h with h | ⟨fn', e, h1, h2, h3, -⟩
  · exact h
  · rw [hf] at h1; cases h1
    cases hx : fn.body with
    | none => rw [hx] at hb; cases hb
    | some c => rw [hx] at h3; cases h3
/-- A test against nil: what may come out. -/
def aNilTest (P : Program) (t : TypeId) (x y : PV) : List Bool :=
  match P.underlying t, x, y with
  | some (.slice _), .val (.slice none 0 0), .val (.slice none 0 0) => [true]
  | some (.slice _), .slice _ _ [], .val (.slice none 0 0) => [true, false]
  | some (.slice _), .slice _ _ (_ :: _), .val (.slice none 0 0) => [false]
  | some (.slice _), .msl _ _ _, .val (.slice none 0 0) => [false]
  | some (.pointer _), .val (.pointer none), .val (.pointer none) => [true]
  | some (.pointer _), .ptr _ _ _ _, .val (.pointer none) => [false]
  | some (.pointer _), .rptr _ _, .val (.pointer none) => [false]
  | some (.func _ _ _), .val .nilFunc, .val .nilFunc => [true]
  | some (.func _ _ _), .func _ _, .val .nilFunc => [false]
  | some (.interface _), .val .nilIface, .val .nilIface => [true]
  | some (.interface _), .iface _ _, .val .nilIface => [false]
  | _, _, _ => []
def aLen (P : Program) (t : TypeId) (x : PV) : Option PV := match P.underlying t with
  | some .string => match x with
    | .val (.string s) => some (.val (.int .i64 (s.size : Int)))
    | _ => none
  | some (.slice _) => (lenOf x).map fun (m : Nat) => PV.val (.int .i64 (m : Int))
  | some (.array m _) => some (.val (.int .i64 (m : Int)))
  | _ => none
def aPure (P : Program) (F : AF) (o : Oper) : Option PV :=
  match o.op with
  | .move x | .assign x => some (F.ev x)
  | .pick c a b => match F.ev c with
    | .val (.bool t) => some (PV.sel t (F.ev a) (F.ev b))
    | _ => none
  | .build t parts => aBuild P t (parts.toList.map fun x => (x.1, F.ev x.2))
  | .nilCheck x => match F.ev x with
    | .ptr id vl row off => some (.ptr id vl row off)
    | .rptr c cells => some (.rptr c cells)
    | .func f caps => some (.func f caps)
    | .iface t p => some (.iface t p)
    | _ => none
  | .binOp op t x y _ => aBin P op t (F.ev x) (F.ev y)
  | .unOp op _ x => aUn op (F.ev x)
  | .convert s d x => aConvert P s d (F.ev x)
  | .makeInterface t x => match P.underlying t with
    | some (.interface _) => none
    | some _ => some (.iface t (F.ev x))
    | none => none
  | .makeFunc (.func f) first caps => if first.size = 0 then some (.func f (caps.toList.map F.ev)) else if caps.size = 0 then some (.bound f (first.toList.map F.ev)) else none
  | .slice t x lo hi none => aCutOp P t (F.ev x) (lo.map F.ev) (hi.map F.ev)
  | .fieldAddr s x f => aFieldAddr P s (F.ev x) f
  | .field s x f => aField P s (F.ev x) f
  | .indexAddr t x i => aIndexAddr P t (F.ev x) (F.ev i)
  | .index t x i => aIndex P t (F.ev x) (F.ev i)
  | .extract x i => aExtract (F.ev x) i
  | .call { callee := .builtin .len, args, argTypes } => match args.toList, argTypes.toList with
    | [x], [t] => aLen P t (F.ev x)
    | _, _ => none
  | .call { callee := .builtin .min, args, .. } => match args.toList with
    | [x, y] => amin (F.ev x) (F.ev y)
    | _ => none
  | .sliceToArrayPointer arr x => aArrayAt P arr (F.ev x)
  | _ => none
def elseOf {α : Type} (x : Option α) (k : α → Prop) (e : Prop) : Prop := match x with
  | some a => k a
  | none => e
/-- A float's reckoning leaves its bits open. -/
def floatElse (o : Option FloatKind) (k : Value → Prop) (e : Prop) : Prop := match o with
  | some kd => ∀ r, k (.float kd r)
  | none => e
def nilElse (op : BinOp) (bs : List Bool) (y : Operand) (k : Bool → Prop) : Prop := match op, bs with
  | .eql, b :: bs => (y matches .const _) = true ∧ ∀ r ∈ b :: bs, k r
  | .neq, b :: bs => (y matches .const _) = true ∧ ∀ r ∈ b :: bs, k (!r)
  | _, _ => False
theorem elseOf.mono {α : Type} {x : Option α} {k k' : α → Prop} {e e' : Prop} (h : elseOf x k e) (hk : ∀ a, k a → k' a) (he : e → e') : elseOf x k' e' := by
  cases x with
  | some a => exact hk a h
  | none => exact he h
theorem floatElse.mono {o : Option FloatKind} {k k' : Value → Prop} {e e' : Prop} (h : floatElse o k e) (hk : ∀ a, k a → k' a) (he : e → e') : floatElse o k' e' := by
  cases o with
  | some a => exact fun r => hk _ (h r)
  | none => exact he h
theorem nilElse.mono {op : BinOp} {bs : List Bool} {y : Operand} {k k' : Bool → Prop} (h : nilElse op bs y k) (hk : ∀ a, k a → k' a) : nilElse op bs y k' := by
  unfold nilElse at *
  split at h
  · exact ⟨h.1, fun r hr => hk _ (h.2 r hr)⟩
  · exact ⟨h.1, fun r hr => hk _ (h.2 r hr)⟩
  · exact h.elim
/-- Two ways to tell what a step makes: either may be chosen. -/
def eitherOf (x y : Option (PV × AS)) (k : PV → AS → Prop) : Prop := ∃ q H', (x = some (q, H') ∨ y = some (q, H')) ∧ k q H'
/-- One operation: what is asked, and what follows. -/
def aOp (P : Program) (F : AF) (H : AS) (o : Oper) (k : PV → AS → Prop) : Prop :=
  match o.op with
  | .alloc t => match aalloc P H t with
    | some (q, H') => k q H'
    | none => False
  | .box _ x => match abox H (F.ev x) with
    | some (q, H') => k q H'
    | none => False
  | .buildSlice t len parts => eitherOf (abuildSlice P H t len (parts.toList.map fun x => (x.1, F.ev x.2))) (abuildRaw P H t len (parts.toList.map fun x => (x.1, F.ev x.2))) k
  | .load t a => match aload P H t (F.ev a) with
    | some q => k q H
    | none => False
  | .store t a x => match astore P H t (F.ev a) (F.ev x) with
    | some H' => k (.val undef) H'
    | none => False
  | .call { callee := .value f, args, .. } => match F.ev f with
    | .func g caps => ACalls P g (args.toList.map F.ev ++ caps) H k
    | .bound g first => ACalls P g (first ++ args.toList.map F.ev) H k
    | _ => False
  | .call { callee := .builtin .append, args, argTypes } => match args.toList, argTypes.toList with
    | [x, y], [s, t] => aappend P H s t (F.ev x) (F.ev y) k
    | _, _ => False
  | .binOp op t x y _ => match aPure P F o with
    | some q => k q H
    | none => floatElse (aFloatOp op (F.ev x) (F.ev y)) (fun v => k (.val v) H) (nilElse op (aNilTest P t (F.ev x) (F.ev y)) y fun r => k (.val (.bool r)) H)
  | .convert s d x => match aPure P F o with
    | some q => k q H
    | none => elseOf (aToString P s d (F.ev x)) (fun q => k q H) (elseOf (aToStringM P H s d (F.ev x)) (fun q => k q H) (elseOf (aToBytes P H s d (F.ev x)) (fun r => k r.1 r.2) False))
  | .makeSlice t l c => match amakeS P H t (F.ev l) (F.ev c) with
    | some (q, H') => k q H'
    | none => False
  | .makeMap t none => match amakeMap P H t with
    | some (q, H') => k q H'
    | none => False
  | .lookup t m x ok => match aLookup P H t (F.ev m) (F.ev x) ok with
    | some q => k q H
    | none => False
  | .mapUpdate t m x y => match aMapUpdate P H t (F.ev m) (F.ev x) (F.ev y) with
    | some H' => k (.val undef) H'
    | none => False
  | _ => match aPure P F o with
    | some q => k q H
    | none => False
/-- The frame as the model holds it. -/
structure RepF (n : Nat) (G : Gh) (F : AF) (a : Act) : Prop where
  defers : a.defers = []
  size : a.tmps.size = n
  rep : ∀ t, Rep G (F t) (a.tmps.getD t undef)
section
variable {P : Program} {G : Gh} {H : AS} {w : World} {n : Nat} {F : AF} {a : Act}
theorem rep_lit (v : Value) : Rep G (PV.lit v) v ∨ (∃ vs, v = .agg vs) := by
  cases v <;> first | exact .inr ⟨_, rfl⟩ | exact .inl (.val _)
/-- Literals of several cells hold cells. -/
def litOk : Operand → Bool
  | .const (.agg vs) => vs.all fun v => v.oneCell'
  | _ => true
theorem RepF.ev (h : RepF n G F a) {x : Operand} (hx : litOk x = true) : Rep G (F.ev x) (a.eval x) := by
  cases x with
  | tmp t => exact h.rep t
  | const v =>
    rcases rep_lit (G := G) v with hr | ⟨vs, rfl⟩
    · exact hr
    · refine .agg (by simp) (fun j u hu => ?_) (fun j p u hp hu => ?_)
      · simp only [litOk, Array.all_eq_true'] at hx
        exact hx u (Array.mem_of_getElem? hu)
      · rw [List.getElem?_map] at hp
        simp only [Option.map_eq_some_iff] at hp
        obtain ⟨q, hq, rfl⟩ := hp
        rw [show u = q by simpa [hu] using hq]
        exact .val _
  | global g => exact .val _
  | func f => exact .func (vs := #[]) rfl (fun j p v hp => by simp at hp)
theorem RepF.mono {G' : Gh} (hle : G.le G') (h : RepF n G F a) : RepF n G' F a := ⟨h.defers, h.size, fun t => (h.rep t).mono hle⟩
theorem RepF.put (h : RepF n G F a) {d : Option Nat} (hd : ∀ x, d = some x → x < n) {p : PV} {v : Value} (hp : Rep G p v) : RepF n G (F.put d p) (a.put d v) := by
  cases d with
  | none => exact h
  | some x =>
    refine ⟨h.defers, by simp [Act.put, h.size], fun t => ?_⟩
    have hx := hd x rfl
    by_cases e : t = x
    · subst e
      simp only [AF.put, Act.put, if_true]
      rw [show (a.tmps.setIfInBounds t v).getD t undef = v by simp [Array.getD_eq_getD_getElem?, h.size, hx]]
      exact hp
    · simp only [AF.put, Act.put, if_neg e]
      rw [show (a.tmps.setIfInBounds x v).getD t undef = a.tmps.getD t undef by simp [Array.getD_eq_getD_getElem?, Array.getElem?_setIfInBounds_ne (Ne.symm e)]]
      exact h.rep t
end
/-- What is looked at once in a region: results lie in the frame, literals hold cells. -/
def regionOk (n : Nat) (ops : Array Oper) : Bool := ops.all fun o => (match o.dst with | some d => decide (d < n) | none => true) && o.op.operands.all litOk
section
variable {P : Program} {G : Gh} {H : AS} {w : World} {n : Nat} {F : AF} {a : Act}
theorem RepF.parts (h : RepF n G F a) (parts : Array (Nat × Operand)) (hl : ∀ x ∈ parts.toList, litOk x.2 = true) :
    (parts.toList.map fun x => (x.1, F.ev x.2)).length = (parts.toList.map fun x => (x.1, a.eval x.2)).length ∧
    ∀ (i : Nat) (x : Nat × PV) (y : Nat × Value), (parts.toList.map fun x => (x.1, F.ev x.2))[i]? = some x → (parts.toList.map fun x => (x.1, a.eval x.2))[i]? = some y → x.1 = y.1 ∧ Rep G x.2 y.2 := by
  refine ⟨by simp, fun i x y hx hy => ?_⟩
  rw [List.getElem?_map] at hx hy
  simp only [Option.map_eq_some_iff] at hx hy
  obtain ⟨u, hu, rfl⟩ := hx
  obtain ⟨v, hv, rfl⟩ := hy
  rw [hu] at hv; cases hv
  exact ⟨rfl, h.ev (hl u (List.mem_of_getElem? hu))⟩
theorem RepF.opt (h : RepF n G F a) (x : Option Operand) (hl : ∀ y, x = some y → litOk y = true) : RepOpt G (x.map F.ev) (x.map a.eval) := by
  cases x with
  | none => trivial
  | some y => exact h.ev (hl y rfl)
theorem RepF.all (h : RepF n G F a) (xs : Array Operand) (hl : ∀ x ∈ xs.toList, litOk x = true) : RepAll G (xs.toList.map F.ev) (xs.toList.map a.eval) :=
  RepAll.of_map _ _ _ fun x hx => h.ev (hl x hx)
theorem lenOf_sound {x : PV} {u : Value} {m : Nat} (hx : Rep G x u) (h : lenOf x = some m) : ∃ a cap, u = .slice a m cap := by
  unfold lenOf at h
  split at h <;> simp at h <;> try subst h
  · cases hx; exact ⟨_, _, rfl⟩
  · cases hx with
    | slice => exact ⟨_, _, rfl⟩
    | nilSlice => exact ⟨_, _, rfl⟩
    | emptySlice => exact ⟨_, _, rfl⟩
  · cases hx; exact ⟨_, _, rfl⟩
theorem aLen_sound {t ty : TypeId} {x q : PV} {u : Value} (hx : Rep G x u) (h : aLen P t x = some q) (w : World) : ∃ r, (Builtin.len_ #[t] ty #[u]).run P w = .ok r w ∧ Rep G q r := by
  unfold aLen at h
  split at h
  · rename_i hu
    split at h
    · cases hx
      simp at h; subst h
      exact ⟨_, by simp [Builtin.len_, run_underlying hu] <;> rfl, .val _⟩
    · cases h
  · rename_i e hu
    simp only [Option.map_eq_some_iff] at h
    obtain ⟨m, hm, rfl⟩ := h
    obtain ⟨a, cap, rfl⟩ := lenOf_sound hx hm
    exact ⟨_, by simp [Builtin.len_, run_underlying hu] <;> rfl, .val _⟩
  · rename_i k e hu
    simp at h; subst h
    exact ⟨_, by simp [Builtin.len_, run_underlying hu] <;> rfl, .val _⟩
  · cases h
theorem aPure_sound (h : RepF n G F a) {o : Oper} {q : PV} (hl : ∀ x ∈ o.op.operands, litOk x = true) (hp : aPure P F o = some q) (w : World) : ∃ v, (execOp a.eval o).run P w = .ok (.value v) w ∧ Rep G q v := by
  have lift : ∀ {s : Sem Value}, (∃ v, s.run P w = .ok v w ∧ Rep G q v) → ∃ v, (do pure (.value (← s)) : Sem Next).run P w = .ok (.value v) w ∧ Rep G q v := by
    rintro s ⟨v, e, hr⟩
    exact ⟨v, by simp [e], hr⟩
  unfold aPure at hp
  unfold execOp
  obtain ⟨dst, op, ty, pos, after, guard⟩ := o
  dsimp only at hp hl ⊢
  split at hp
  · rename_i x
    simp at hp; subst hp
    exact ⟨_, rfl, h.ev (hl x (by simp [Op.operands]))⟩
  · rename_i x
    simp at hp; subst hp
    exact ⟨_, rfl, h.ev (hl x (by simp [Op.operands]))⟩
  · rename_i c x y
    have hc := h.ev (hl c (by simp [Op.operands]))
    split at hp
    · rename_i t e
      simp at hp; subst hp
      rw [e] at hc
      have hc' := rep_val hc
      have hx := h.ev (hl x (by simp [Op.operands]))
      have hy := h.ev (hl y (by simp [Op.operands]))
      refine ⟨if t then a.eval x else a.eval y, by simp [hc', asBool] <;> cases t <;> rfl, ?_⟩
      cases t
      · simpa using hy
      · simpa using hx
    · cases hp
  · rename_i t parts
    obtain ⟨p1, p2⟩ := h.parts parts (fun x hx => hl x.2 (by simp [Op.operands]; exact ⟨x.1, by simpa using hx⟩))
    obtain ⟨r, hr, hrep⟩ := aBuild_sound p1 p2 hp w
    refine lift ⟨r, ?_, hrep⟩
    rw [← hr]
    congr 2
    apply Array.ext'
    simp
  · rename_i x
    have hx := h.ev (hl x (by simp [Op.operands]))
    dsimp only
    generalize a.eval x = u at hx ⊢
    split at hp
    · rename_i e; simp at hp; subst hp; rw [e] at hx
      have hx' := hx
      cases hx' with
      | ptr hv => exact ⟨_, rfl, hx⟩
    · rename_i e; simp at hp; subst hp; rw [e] at hx
      have hx' := hx
      cases hx' with
      | rptr => exact ⟨_, rfl, hx⟩
    · rename_i e; simp at hp; subst hp; rw [e] at hx
      have hx' := hx
      cases hx' with
      | func => exact ⟨_, rfl, hx⟩
    · rename_i e; simp at hp; subst hp; rw [e] at hx
      have hx' := hx
      cases hx' with
      | iface => exact ⟨_, rfl, hx⟩
    · cases hp
  · rename_i op t x y yt
    exact lift (aBin_sound (h.ev (hl x (by simp [Op.operands]))) (h.ev (hl y (by simp [Op.operands]))) x y hp w)
  · rename_i op t x
    exact lift (aUn_sound (h.ev (hl x (by simp [Op.operands]))) hp w)
  · rename_i s d x
    exact lift (aConvert_sound (h.ev (hl x (by simp [Op.operands]))) hp w)
  · rename_i t x
    split at hp
    · cases hp
    · rename_i d hn hu
      simp at hp; subst hp
      refine lift ⟨.iface t (a.eval x), ?_, .iface (h.ev (hl x (by simp [Op.operands])))⟩
      simp only [Instr.makeInterface, Sem.run_bind, run_underlying hu, Result.andThen_ok]
      cases d <;> first | rfl | exact absurd rfl (hn _)
    · cases hp
  · rename_i f first caps
    split at hp
    · rename_i h0
      simp at hp; subst hp
      refine lift ⟨.func (.func f) #[] (caps.map a.eval), ?_, ?_⟩
      · have : first = #[] := by simpa using h0
        subst this; simp [Instr.makeFunc]
      · refine .func (by simp) (fun j p v hj hv => ?_)
        rw [List.getElem?_map] at hj
        simp only [Option.map_eq_some_iff] at hj
        obtain ⟨x, hx, rfl⟩ := hj
        simp only [Array.getElem?_map, Option.map_eq_some_iff] at hv
        obtain ⟨y, hy, rfl⟩ := hv
        have hxy : y = x := by simpa [hy] using hx
        subst hxy
        exact h.ev (hl y (by simp [Op.operands]; exact .inr (Array.mem_of_getElem? hy)))
    · split at hp
      · rename_i h0
        simp at hp; subst hp
        refine lift ⟨.func (.func f) (first.map a.eval) #[], ?_, ?_⟩
        · have : caps = #[] := by simpa using h0
          subst this; simp [Instr.makeFunc]
        · refine .bound (by simp) (fun j p v hj hv => ?_)
          rw [List.getElem?_map] at hj
          simp only [Option.map_eq_some_iff] at hj
          obtain ⟨x, hx, rfl⟩ := hj
          simp only [Array.getElem?_map, Option.map_eq_some_iff] at hv
          obtain ⟨y, hy, rfl⟩ := hv
          have hxy : y = x := by simpa [hy] using hx
          subst hxy
          exact h.ev (hl y (by simp [Op.operands]; exact .inl (Array.mem_of_getElem? hy)))
      · cases hp
  · rename_i t x lo hi
    exact lift (aCutOp_sound (h.ev (hl x (by simp [Op.operands]))) (h.opt lo (fun y e => hl y (by subst e; simp [Op.operands]))) (h.opt hi (fun y e => hl y (by subst e; simp [Op.operands]))) hp w)
  · rename_i s x f
    exact lift (aFieldAddr_sound (h.ev (hl x (by simp [Op.operands]))) hp w)
  · rename_i s x f
    exact lift (aField_sound (h.ev (hl x (by simp [Op.operands]))) hp w)
  · rename_i t x i
    exact lift (aIndexAddr_sound (h.ev (hl x (by simp [Op.operands]))) (h.ev (hl i (by simp [Op.operands]))) hp w)
  · rename_i t x i
    exact lift (aIndex_sound (h.ev (hl x (by simp [Op.operands]))) (h.ev (hl i (by simp [Op.operands]))) hp w)
  · rename_i x i
    have hx := h.ev (hl x (by simp [Op.operands]))
    unfold aExtract at hp
    split at hp
    · rename_i vs e
      rw [e] at hx
      dsimp only
      generalize a.eval x = u at hx ⊢
      cases hx with
      | tuple h1 h2 =>
        rename_i us
        have hlt : i < us.size := by rw [← h1]; exact (List.getElem?_eq_some_iff.1 hp).1
        exact lift ⟨us[i], by simp [Instr.extract, hlt], h2 i q _ hp (by simp [hlt])⟩
    · cases hp
  · rename_i args argTypes
    split at hp
    · rename_i x t e1 e2
      have h1 : args = #[x] := by apply Array.ext'; simpa using e1
      have h2 : argTypes = #[t] := by apply Array.ext'; simpa using e2
      subst h1; subst h2
      obtain ⟨r, hr, hrep⟩ := aLen_sound (ty := ty) (h.ev (hl x (by simp [Op.operands, Call.operands]))) hp w
      exact ⟨r, by simp [resolve, invoke, builtin, hr], hrep⟩
    · cases hp
  · rename_i args argTypes
    split at hp
    · rename_i x y e1
      have h1 : args = #[x, y] := by apply Array.ext'; simpa using e1
      subst h1
      obtain ⟨r, hr, hrep⟩ := amin_sound (P := P) (h.ev (hl x (by simp [Op.operands, Call.operands]))) (h.ev (hl y (by simp [Op.operands, Call.operands]))) hp argTypes ty w
      exact ⟨r, by simp [resolve, invoke, builtin, hr], hrep⟩
    · cases hp
  · rename_i arr x
    exact lift (aArrayAt_sound (h.ev (hl x (by simp [Op.operands]))) hp w)
  · cases hp
theorem aNilTest_sound {op : BinOp} {t : TypeId} {xo yo : Operand} {x y : PV} {u v : Value} (hx : Rep G x u) (hy : Rep G y v) (hne : aNilTest P t x y ≠ []) (hyc : (yo matches .const _) = true) (hop : op = .eql ∨ op = .neq) (w : World) :
    ∃ b ∈ aNilTest P t x y, (do eqGuard op t xo yo u v; binOp op t u v : Sem Value).run P w = .ok (.bool (if op = .eql then b else !b)) w := by
  have fin : ∀ b, b ∈ aNilTest P t x y → (eqGuard op t xo yo u v).run P w = .ok () w → (∀ d, (Op.equalIn (d + 1) t u v).run P w = .ok b w) →
      ((∀ op', op' = .eql ∨ op' = .neq → binOp op' t u v = if op' = .eql then (do pure (.bool (← Op.equal t u v))) else (do pure (.bool (!(← Op.equal t u v)))))) →
      ∃ b ∈ aNilTest P t x y, (do eqGuard op t xo yo u v; binOp op t u v : Sem Value).run P w = .ok (.bool (if op = .eql then b else !b)) w := by
    intro b hb hg he0 hbin
    have he : (Op.equal t u v).run P w = .ok b w := he0 9999
    refine ⟨b, hb, ?_⟩
    rw [hbin op hop]
    rcases hop with rfl | rfl <;> simp [hg, he]
  have key := hne
  unfold aNilTest at key
  split at key <;> rename_i hu
  case h_12 => exact absurd rfl key
  · cases hx; cases hy
    exact fin true (by simp [aNilTest, hu]) (by simp [eqGuard_at_slice]) (fun d => by simp only [Op.equalIn, Sem.run_bind, run_underlying hu, Result.andThen_ok] <;> rfl) (fun op' h => by rcases h with rfl | rfl <;> simp [binOp])
  · cases hy
    cases hx with
    | slice => exact fin false (by simp [aNilTest, hu]) (by simp [eqGuard_at_slice]) (fun d => by simp only [Op.equalIn, Sem.run_bind, run_underlying hu, Result.andThen_ok] <;> rfl) (fun op' h => by rcases h with rfl | rfl <;> simp [binOp])
    | emptySlice => exact fin false (by simp [aNilTest, hu]) (by simp [eqGuard_at_slice]) (fun d => by simp only [Op.equalIn, Sem.run_bind, run_underlying hu, Result.andThen_ok] <;> rfl) (fun op' h => by rcases h with rfl | rfl <;> simp [binOp])
    | nilSlice => exact fin true (by simp [aNilTest, hu]) (by simp [eqGuard_at_slice]) (fun d => by simp only [Op.equalIn, Sem.run_bind, run_underlying hu, Result.andThen_ok] <;> rfl) (fun op' h => by rcases h with rfl | rfl <;> simp [binOp])
  · cases hy
    cases hx with
    | slice => exact fin false (by simp [aNilTest, hu]) (by simp [eqGuard_at_slice]) (fun d => by simp only [Op.equalIn, Sem.run_bind, run_underlying hu, Result.andThen_ok] <;> rfl) (fun op' h => by rcases h with rfl | rfl <;> simp [binOp])
  · cases hy
    cases hx with
    | msl => exact fin false (by simp [aNilTest, hu]) (by simp [eqGuard_at_slice]) (fun d => by simp only [Op.equalIn, Sem.run_bind, run_underlying hu, Result.andThen_ok] <;> rfl) (fun op' h => by rcases h with rfl | rfl <;> simp [binOp])
  · cases hx; cases hy
    exact fin true (by simp [aNilTest, hu]) (by simp [eqGuard_at_pointer]) (fun d => by simp only [Op.equalIn, Sem.run_bind, run_underlying hu, Result.andThen_ok] <;> rfl) (fun op' h => by rcases h with rfl | rfl <;> simp [binOp])
  · cases hy
    cases hx with
    | ptr => exact fin false (by simp [aNilTest, hu]) (by simp [eqGuard_at_pointer]) (fun d => by simp only [Op.equalIn, Sem.run_bind, run_underlying hu, Result.andThen_ok] <;> rfl) (fun op' h => by rcases h with rfl | rfl <;> simp [binOp])
  · cases hy
    cases hx with
    | rptr => exact fin false (by simp [aNilTest, hu]) (by simp [eqGuard_at_pointer]) (fun d => by simp only [Op.equalIn, Sem.run_bind, run_underlying hu, Result.andThen_ok] <;> rfl) (fun op' h => by rcases h with rfl | rfl <;> simp [binOp])
  · cases hx; cases hy
    exact fin true (by simp [aNilTest, hu]) (by simp [eqGuard_at_nilFunc]) (fun d => by simp only [Op.equalIn, Sem.run_bind, run_underlying hu, Result.andThen_ok] <;> rfl) (fun op' h => by rcases h with rfl | rfl <;> simp [binOp])
  · cases hy
    cases hx with
    | func => exact fin false (by simp [aNilTest, hu]) (by simp [eqGuard_at_func]) (fun d => by simp only [Op.equalIn, Sem.run_bind, run_underlying hu, Result.andThen_ok] <;> rfl) (fun op' h => by rcases h with rfl | rfl <;> simp [binOp])
  · cases hx; cases hy
    refine fin true (by simp [aNilTest, hu]) ?_ (fun d => by simp only [Op.equalIn, Sem.run_bind, run_underlying hu, Result.andThen_ok] <;> rfl) (fun op' h => by rcases h with rfl | rfl <;> simp [binOp])
    cases yo <;> simp at hyc
    rcases hop with rfl | rfl <;> cases xo <;> rfl
  · cases hy
    cases hx with
    | iface => exact fin false (by simp [aNilTest, hu]) (by simp [eqGuard_at_iface]) (fun d => by simp only [Op.equalIn, Sem.run_bind, run_underlying hu, Result.andThen_ok] <;> rfl) (fun op' h => by rcases h with rfl | rfl <;> simp [binOp])
end
section
variable {P : Program} {G : Gh} {H : AS} {w : World} {n : Nat} {F : AF} {a : Act}
/-- Where an operation leads, whatever the ghost becomes. -/
def Leads (G : Gh) (o : Oper) (a : Act) (k : PV → AS → Prop) (K : Act → World → Prop) : Prop :=
  ∀ G' q H' v w', G.le G' → Rel G' H' w' → Rep G' q v → k q H' → K (a.put o.dst v) w'
theorem wp_value {o : Oper} {Q : Exit → Act → World → Prop} {K : Act → World → Prop} {v : Value} {w' : World} (h : (execOp a.eval o).run P w = .ok (.value v) w') (hk : K (a.put o.dst v) w') : o.wp P a w K Q := by
  unfold Oper.wp; rw [h]; exact hk
theorem wp_lift {o : Oper} {Q : Exit → Act → World → Prop} {K : Act → World → Prop} {s : Sem Value} (he : execOp a.eval o = (do pure (.value (← s)))) {v : Value} {w' : World} (h : s.run P w = .ok v w') (hk : K (a.put o.dst v) w') : o.wp P a w K Q :=
  wp_value (by rw [he]; simp [h]) hk
theorem aOp_sound (hr : Rel G H w) (hF : RepF n G F a) {o : Oper} (hl : ∀ x ∈ o.op.operands, litOk x = true) {k : PV → AS → Prop} (h : aOp P F H o k) {Q : Exit → Act → World → Prop} {K : Act → World → Prop} (hK : Leads G o a k K) : o.wp P a w K Q := by
  have pure_ : ∀ q, aPure P F o = some q → k q H → o.wp P a w K Q := fun q hq hk => by
    obtain ⟨v, e, hrep⟩ := aPure_sound hF hl hq w
    exact wp_value e (hK G q H v w (.refl G) hr hrep hk)
  obtain ⟨dst, op, ty, pos, after, guard⟩ := o
  unfold aOp at h
  dsimp only at h hl
  split at h
  · rename_i t
    split at h
    · rename_i q H' e
      obtain ⟨v, w', G', hrun, hle, hrel, hrep⟩ := aalloc_sound hr e
      exact wp_lift rfl hrun (hK G' q H' v w' hle hrel hrep h)
    · exact h.elim
  · rename_i t x
    split at h
    · rename_i q H' e
      obtain ⟨v, w', G', hrun, hle, hrel, hrep⟩ := abox_sound (P := P) (t := t) hr (hF.ev (hl x (by simp [Op.operands]))) e
      exact wp_lift rfl hrun (hK G' q H' v w' hle hrel hrep h)
    · exact h.elim
  · rename_i t len parts
    obtain ⟨q, H', e, h⟩ := h
    obtain ⟨p1, p2⟩ := hF.parts parts (fun x hx => hl x.2 (by
        simp only [Op.operands, List.mem_toArray, List.mem_map]
        exact ⟨x, hx, rfl⟩))
    rcases e with e | e
    · obtain ⟨v, w', G', hrun, hle, hrel, hrep⟩ := abuildX_sound (P := P) true (t := t) (len := len) (parts := parts.toList.map fun x => (x.1, F.ev x.2)) (vparts := parts.toList.map fun x => (x.1, a.eval x.2)) (q := q) (H' := H') hr p1 p2 ((abuildSlice_eq _ _ _ _ _).symm.trans e)
      have e2 : (parts.toList.map fun x => (x.1, a.eval x.2)).toArray = parts.map fun x => (x.1, a.eval x.2) := by apply Array.ext'; simp
      rw [e2] at hrun
      exact wp_lift rfl hrun (hK G' q H' v w' hle hrel hrep h)
    · obtain ⟨v, w', G', hrun, hle, hrel, hrep⟩ := abuildX_sound (P := P) false (t := t) (len := len) (parts := parts.toList.map fun x => (x.1, F.ev x.2)) (vparts := parts.toList.map fun x => (x.1, a.eval x.2)) (q := q) (H' := H') hr p1 p2 ((abuildRaw_eq _ _ _ _ _).symm.trans e)
      have e2 : (parts.toList.map fun x => (x.1, a.eval x.2)).toArray = parts.map fun x => (x.1, a.eval x.2) := by apply Array.ext'; simp
      rw [e2] at hrun
      exact wp_lift rfl hrun (hK G' q H' v w' hle hrel hrep h)
  · rename_i t x
    split at h
    · rename_i q e
      obtain ⟨v, hrun, hrep⟩ := aload_sound hr (hF.ev (hl x (by simp [Op.operands]))) e
      exact wp_lift rfl hrun (hK G q H v w (.refl G) hr hrep h)
    · exact h.elim
  · rename_i t x y
    split at h
    · rename_i H' e
      obtain ⟨w', hrun, hrel⟩ := astore_sound hr (hF.ev (hl x (by simp [Op.operands]))) (hF.ev (hl y (by simp [Op.operands]))) e
      unfold Oper.wp
      have : (execOp a.eval { dst := dst, op := Op.store t x y, type := ty, pos := pos, after := after, guard := guard }).run P w = .ok .skip w' := by simp [execOp, hrun]
      rw [this]
      exact hK G _ H' _ w' (.refl G) hrel (.val _) h
    · exact h.elim
  · rename_i f args tys
    split at h
    · rename_i g caps hf
      have hfv := hF.ev (hl f (by simp [Op.operands, Call.operands]))
      rw [hf] at hfv
      generalize hu : a.eval f = u at hfv
      cases hfv with
      | func h1 h2 =>
        rename_i vs
        rcases h with ⟨⟨fn, g1, g2, g3⟩, hcall⟩ | ⟨fn, ex, g1, g3, g2, g4, g5, hcall⟩
        case inr =>
          have hall := hF.all args (fun x hx => hl x (by simp [Op.operands, Call.operands]; exact .inr (by simpa using hx)))
          have hcaps : RepAll G caps vs.toList := RepAll.of_get (by simpa using h1) (fun j p v hp hv => h2 j p v hp (by simpa using hv))
          obtain ⟨v, w', G', q, H', hx, hle, hrel, hrep, hq⟩ := hcall G w _ hr (hall.append hcaps)
          refine wp_value ?_ (hK G' q H' v w' hle hrel hrep hq)
          have e : (args.toList.map a.eval ++ vs.toList).toArray = args.map a.eval ++ vs := by apply Array.ext'; simp
          rw [e] at hx
          simp only [execOp, resolve, hu, Deferred.ofValue, Sem.run_bind, Sem.run_pure, Result.andThen_ok, invoke, Array.append_empty, Array.empty_append]
          rw [run_callFunc_extern g1 g3 g2 g4 g5, hx]; rfl
        have hall := hF.all args (fun x hx => hl x (by simp [Op.operands, Call.operands]; exact .inr (by simpa using hx)))
        have hcaps : RepAll G caps vs.toList := RepAll.of_get (by simpa using h1) (fun j p v hp hv => h2 j p v hp (by simpa using hv))
        have hc := hcall G w _ hr (hall.append hcaps)
        have hrun : (execOp a.eval { dst := dst, op := Op.call { callee := Callee.value f, args := args, argTypes := tys }, type := ty, pos := pos, after := after, guard := guard }).run P w = .ok (.enter g (args.map a.eval ++ vs)) w := by
          simp only [execOp, resolve, hu, Deferred.ofValue, Sem.run_bind, Sem.run_pure, Result.andThen_ok, invoke, callFunc, run_program, g1, g3, Bool.false_eq_true, if_false]
          cases hb : fn.body with
          | none => rw [hb] at g2; cases g2
          | some c => simp
        unfold Oper.wp
        rw [hrun]
        have e : (args.toList.map a.eval ++ vs.toList).toArray = args.map a.eval ++ vs := by apply Array.ext'; simp
        rw [e] at hc
        refine hc.mono ?_
        rintro e' w' ⟨v, G', q, H', rfl, hle, hrel, hrep, hq⟩
        exact hK G' q H' v w' hle hrel hrep hq
    · rename_i g caps hf
      have hfv := hF.ev (hl f (by simp [Op.operands, Call.operands]))
      rw [hf] at hfv
      generalize hu : a.eval f = u at hfv
      cases hfv with
      | bound h1 h2 =>
        rename_i vs
        rcases h with ⟨⟨fn, g1, g2, g3⟩, hcall⟩ | ⟨fn, ex, g1, g3, g2, g4, g5, hcall⟩
        case inr =>
          have hall := hF.all args (fun x hx => hl x (by simp [Op.operands, Call.operands]; exact .inr (by simpa using hx)))
          have hcaps : RepAll G caps vs.toList := RepAll.of_get (by simpa using h1) (fun j p v hp hv => h2 j p v hp (by simpa using hv))
          obtain ⟨v, w', G', q, H', hx, hle, hrel, hrep, hq⟩ := hcall G w _ hr (hcaps.append hall)
          refine wp_value ?_ (hK G' q H' v w' hle hrel hrep hq)
          have e : (vs.toList ++ args.toList.map a.eval).toArray = vs ++ args.map a.eval := by apply Array.ext'; simp
          rw [e] at hx
          simp only [execOp, resolve, hu, Deferred.ofValue, Sem.run_bind, Sem.run_pure, Result.andThen_ok, invoke, Array.append_empty, Array.empty_append]
          rw [run_callFunc_extern g1 g3 g2 g4 g5, hx]; rfl
        have hall := hF.all args (fun x hx => hl x (by simp [Op.operands, Call.operands]; exact .inr (by simpa using hx)))
        have hcaps : RepAll G caps vs.toList := RepAll.of_get (by simpa using h1) (fun j p v hp hv => h2 j p v hp (by simpa using hv))
        have hc := hcall G w _ hr (hcaps.append hall)
        have hrun : (execOp a.eval { dst := dst, op := Op.call { callee := Callee.value f, args := args, argTypes := tys }, type := ty, pos := pos, after := after, guard := guard }).run P w = .ok (.enter g (vs ++ args.map a.eval)) w := by
          simp only [execOp, resolve, hu, Deferred.ofValue, Sem.run_bind, Sem.run_pure, Result.andThen_ok, invoke, callFunc, run_program, g1, g3, Bool.false_eq_true, if_false]
          cases hb : fn.body with
          | none => rw [hb] at g2; cases g2
          | some c => simp
        unfold Oper.wp
        rw [hrun]
        have e : (vs.toList ++ args.toList.map a.eval).toArray = vs ++ args.map a.eval := by apply Array.ext'; simp
        rw [e] at hc
        refine hc.mono ?_
        rintro e' w' ⟨v, G', q, H', rfl, hle, hrel, hrep, hq⟩
        exact hK G' q H' v w' hle hrel hrep hq
    · exact h.elim
  · rename_i args tys
    split at h
    · rename_i x y s t e1 e2
      have h1 : args = #[x, y] := by apply Array.ext'; simpa using e1
      have h2 : tys = #[s, t] := by apply Array.ext'; simpa using e2
      subst h1; subst h2
      obtain ⟨v, w', G', q, H', hrun, hle, hrel, hrep, hq⟩ := aappend_sound (ty := ty) hr (hF.ev (hl x (by simp [Op.operands, Call.operands]))) (hF.ev (hl y (by simp [Op.operands, Call.operands]))) h
      refine wp_value ?_ (hK G' q H' v w' hle hrel hrep hq)
      simp [execOp, resolve, invoke, builtin, hrun]
    · exact h.elim
  · rename_i op t x y yt
    split at h
    · rename_i q e; exact pure_ q e h
    · rename_i e0
      have hx := hF.ev (hl x (by simp [Op.operands]))
      have hy := hF.ev (hl y (by simp [Op.operands]))
      cases ef : aFloatOp op (F.ev x) (F.ev y) with
      | some kd =>
        rw [ef] at h
        obtain ⟨r, n, hrun⟩ := aFloatOp_sound (P := P) (op := op) (t := t) hx hy x y ef w
        exact wp_lift rfl hrun (hK G _ H _ _ (.refl G) (hr.drew n) (.val _) (h r))
      | none =>
        rw [ef] at h
        replace h : nilElse op (aNilTest P t (F.ev x) (F.ev y)) y fun r => k (.val (.bool r)) H := h
        unfold nilElse at h
        split at h
        · rename_i b bs e
          obtain ⟨hyc, hall⟩ := h
          obtain ⟨r, hr1, hrun⟩ := aNilTest_sound (P := P) (op := .eql) (xo := x) hx hy (by rw [e]; simp) hyc (.inl rfl) w
          rw [e] at hr1
          exact wp_lift rfl hrun (hK G _ H _ w (.refl G) hr (.val _) (hall r hr1))
        · rename_i b bs e
          obtain ⟨hyc, hall⟩ := h
          obtain ⟨r, hr1, hrun⟩ := aNilTest_sound (P := P) (op := .neq) (xo := x) hx hy (by rw [e]; simp) hyc (.inr rfl) w
          rw [e] at hr1
          exact wp_lift rfl hrun (hK G _ H _ w (.refl G) hr (.val _) (hall r hr1))
        · exact h.elim
  · rename_i s d x
    split at h
    · rename_i q e; exact pure_ q e h
    · have hx := hF.ev (hl x (by simp [Op.operands]))
      cases e1 : aToString P s d (F.ev x) with
      | some q =>
        rw [e1] at h
        obtain ⟨v, hrun, hrep⟩ := aToString_sound (P := P) hr hx e1
        exact wp_lift rfl hrun (hK G q H v w (.refl G) hr hrep h)
      | none =>
        rw [e1] at h
        cases e2 : aToStringM P H s d (F.ev x) with
        | some q =>
          rw [e2] at h
          obtain ⟨v, hrun, hrep⟩ := aToStringM_sound (P := P) hr hx e2
          exact wp_lift rfl hrun (hK G q H v w (.refl G) hr hrep h)
        | none =>
          rw [e2] at h
          cases e3 : aToBytes P H s d (F.ev x) with
          | some r =>
            rw [e3] at h
            obtain ⟨v, w', G', hrun, hle, hrel, hrep⟩ := aToBytes_sound (P := P) hr hx e3
            exact wp_lift rfl hrun (hK G' r.1 r.2 v w' hle hrel hrep h)
          | none => rw [e3] at h; exact h.elim
  · rename_i t l c
    split at h
    · rename_i q H' e
      obtain ⟨v, w', G', hrun, hle, hrel, hrep⟩ := amakeS_sound hr (hF.ev (hl l (by simp [Op.operands]))) (hF.ev (hl c (by simp [Op.operands]))) e
      exact wp_lift rfl hrun (hK G' q H' v w' hle hrel hrep h)
    · exact h.elim
  · rename_i t
    split at h
    · rename_i q H' e
      obtain ⟨v, w', G', hrun, hle, hrel, hrep⟩ := amakeMap_sound hr e
      exact wp_lift rfl hrun (hK G' q H' v w' hle hrel hrep h)
    · exact h.elim
  · rename_i t m x ok
    split at h
    · rename_i q e
      obtain ⟨v, hrun, hrep⟩ := aLookup_sound hr (hF.ev (hl m (by simp [Op.operands]))) (hF.ev (hl x (by simp [Op.operands]))) e
      exact wp_lift rfl hrun (hK G q H v w (.refl G) hr hrep h)
    · exact h.elim
  · rename_i t m x y
    split at h
    · rename_i H' e
      obtain ⟨w', hrun, hrel⟩ := aMapUpdate_sound hr (hF.ev (hl m (by simp [Op.operands]))) (hF.ev (hl x (by simp [Op.operands]))) (hF.ev (hl y (by simp [Op.operands]))) e
      unfold Oper.wp
      have : (execOp a.eval { dst := dst, op := Op.mapUpdate t m x y, type := ty, pos := pos, after := after, guard := guard }).run P w = .ok .skip w' := by simp [execOp, hrun]
      rw [this]
      exact hK G _ H' _ w' (.refl G) hrel (.val _) h
    · exact h.elim
  · split at h
    · rename_i q e; exact pure_ q e h
    · exact h.elim
/-- What an operation's value says to a guard: a boolean, or that it was left out. -/
def guardOf : PV → Option (Option Bool)
  | .val (.bool b) => some (some b)
  | .val (.tuple vs) => if vs.size = 0 then some none else none
  | _ => none
@[simp] theorem guardOf_bool (b : Bool) : guardOf (.val (.bool b)) = some (some b) := rfl
@[simp] theorem guardOf_undef : guardOf (.val undef) = some none := rfl
/-- Operations one behind another, in the order of the text. -/
def aList (P : Program) (ops : Array Oper) : List Oper → AF → AS → (AF → AS → Prop) → Prop
  | [], F, H, K => K F H
  | o :: rest, F, H, K => match o.guard with
    | none => aOp P F H o fun q H' => aList P ops rest (F.put o.dst q) H' K
    | some (j, want) => match (ops[j]?).bind (·.dst) with
      | some t => match guardOf (F t) with
        | some (some b) => (b = want → aOp P F H o fun q H' => aList P ops rest (F.put o.dst q) H' K) ∧ (b = (!want) → aList P ops rest (F.put o.dst (.val undef)) H K)
        | some none => aList P ops rest (F.put o.dst (.val undef)) H K
        | none => False
      | none => False
theorem regionOk_spec {ops : Array Oper} (h : regionOk n ops = true) {i : Nat} {o : Oper} (hi : ops[i]? = some o) : (∀ x, o.dst = some x → x < n) ∧ ∀ x ∈ o.op.operands, litOk x = true := by
  unfold regionOk at h
  rw [Array.all_eq_true'] at h
  have := h o (Array.mem_of_getElem? hi)
  rw [Bool.and_eq_true] at this
  refine ⟨fun x hx => ?_, Array.all_eq_true'.1 this.2⟩
  have h1 := this.1; rw [hx] at h1; simpa using h1
theorem yielded_of (hF : RepF n G F a) {ops : Array Oper} {j t : Nat} (hj : (ops[j]?).bind (·.dst) = some t) (ht : t < n) {b : Bool} (hb : F t = .val (.bool b)) : yielded ops a.tmps j = some b := by
  have hr := hF.rep t
  rw [hb] at hr
  have hv := rep_val hr
  have hlt : t < a.tmps.size := by rw [hF.size]; exact ht
  unfold yielded
  rw [hj]
  simp only [Option.bind_some]
  rw [Array.getD_eq_getD_getElem?] at hv
  simp [hlt] at hv ⊢
  rw [hv]
theorem guardOf_some {p : PV} {b : Bool} (h : guardOf p = some (some b)) : p = .val (.bool b) := by
  unfold guardOf at h
  split at h
  · simp at h; rw [h]
  · split at h <;> simp at h
  · cases h
theorem guardOf_none {p : PV} (h : guardOf p = some none) : p = .val (.tuple #[]) := by
  unfold guardOf at h
  split at h
  · simp at h
  · split at h
    · rename_i hs; rw [Array.size_eq_zero_iff.1 hs]
    · cases h
  · cases h
theorem yielded_none (hF : RepF n G F a) {ops : Array Oper} {j t : Nat} (hj : (ops[j]?).bind (·.dst) = some t) (hb : F t = .val (.tuple #[])) : yielded ops a.tmps j = none := by
  have hr := hF.rep t
  rw [hb] at hr
  have hv := rep_val hr
  unfold yielded
  rw [hj]
  simp only [Option.bind_some]
  rw [Array.getD_eq_getD_getElem?] at hv
  cases h : a.tmps[t]? with
  | none => rfl
  | some v => rw [h] at hv; simp at hv; subst hv; rfl
theorem aList_sound {ops : Array Oper} (hok : regionOk n ops = true) {Q : Exit → Act → World → Prop} : ∀ (l : List Oper) (m : Nat), (∀ i, l[i]? = ops[m + i]?) → ∀ {G : Gh} {H : AS} {w : World} {F : AF} {a : Act}, Rel G H w → RepF n G F a →
    ∀ {K : AF → AS → Prop}, aList P ops l F H K → (∀ G' F' H' a' w', G.le G' → Rel G' H' w' → RepF n G' F' a' → K F' H' → Q .normal a' w') → wpOps P ops Q (List.range' m l.length) a w
  | [], m, _, G, H, w, F, a, hr, hF, K, h, hK => by
    simp only [List.length_nil, List.range'_zero, wpOps]
    exact hK G F H a w (.refl G) hr hF h
  | o :: l, m, hl, G, H, w, F, a, hr, hF, K, h, hK => by
    have hi : ops[m]? = some o := by simpa using (hl 0).symm
    obtain ⟨hd, hlit⟩ := regionOk_spec hok hi
    have hl' : ∀ i, l[i]? = ops[m + 1 + i]? := fun i => by have := hl (i + 1); simpa [Nat.add_assoc, Nat.add_comm 1 i] using this
    simp only [List.length_cons, List.range'_succ, wpOps, hi]
    have run : aOp P F H o (fun q H' => aList P ops l (F.put o.dst q) H' K) → o.wp P a w (wpOps P ops Q (List.range' (m + 1) l.length)) Q := fun h =>
      aOp_sound hr hF hlit h fun G' q H' v w' hle hrel hrep hk => aList_sound hok l (m + 1) hl' hrel ((hF.mono hle).put hd hrep) hk fun G'' F' H'' a' w'' hle' => hK G'' F' H'' a' w'' (hle.trans hle')
    have skip : aList P ops l (F.put o.dst (.val undef)) H K → wpOps P ops Q (List.range' (m + 1) l.length) (a.put o.dst undef) w := fun h =>
      aList_sound hok l (m + 1) hl' hr (hF.put hd (.val _)) h hK
    unfold aList at h
    split at h
    · rename_i hg
      have : Region.wanted o (yielded ops a.tmps) = true := by simp [Region.wanted, hg]
      rw [if_pos this]
      exact .inl (run h)
    · rename_i j want hg
      split at h
      · rename_i t hj
        split at h
        · rename_i b hb
          have hb := guardOf_some hb
          have ht : t < n := by
            cases ho : ops[j]? with
            | none => rw [ho] at hj; cases hj
            | some o' => rw [ho] at hj; exact (regionOk_spec hok ho).1 t hj
          have hy := yielded_of hF hj ht hb
          by_cases e : b = want
          · have : Region.wanted o (yielded ops a.tmps) = true := by simp [Region.wanted, hg, hy, e]
            rw [if_pos this]
            exact .inl (run (h.1 e))
          · have : Region.wanted o (yielded ops a.tmps) = false := by simp [Region.wanted, hg, hy, e]
            rw [this]
            exact skip (h.2 (by cases b <;> cases want <;> simp_all))
        · rename_i hb
          have hy := yielded_none hF hj (guardOf_none hb)
          have : Region.wanted o (yielded ops a.tmps) = false := by simp [Region.wanted, hg, hy]
          rw [this]
          exact skip h
        · exact h.elim
      · exact h.elim
end
def Exit.fine : Exit → Prop
  | .panic _ | .outgrown => False
  | _ => True
def PostOf (n : Nat) (G : Gh) (Q : Exit → AF → AS → Prop) (e : Exit) (a : Act) (w : World) : Prop :=
  Exit.fine e ∧ ∃ G' F' H', G.le G' ∧ Rel G' H' w ∧ RepF n G' F' a ∧ Q e F' H'
structure Gh.Dom (G : Gh) (b : Nat) : Prop where
  next : G.next ≤ b
  view : ∀ id vl x, G.view id vl = some x → id < G.next
  mview : ∀ id x, G.mview id = some x → id < G.next
/-- Code, from an abstract frame and memory. n: the frame's slots; b: the next number when the function began. -/
def T (P : Program) (n b : Nat) (c : Code) (F : AF) (H : AS) (Q : Exit → AF → AS → Prop) : Prop :=
  ∀ (G0 G : Gh) (w : World) (a : Act), G0.Dom b → G0.le G → Rel G H w → RepF n G F a → c.wp P (PostOf n G0 Q) a w
section
variable {P : Program} {n b : Nat} {F : AF} {H : AS} {Q : Exit → AF → AS → Prop}
theorem PostOf.mono {G : Gh} {Q Q' : Exit → AF → AS → Prop} (hq : ∀ e F H, Exit.fine e → Q e F H → Q' e F H) {e : Exit} {a : Act} {w : World} (h : PostOf n G Q e a w) : PostOf n G Q' e a w :=
  let ⟨f, G2, F2, H2, l, r, rf, q⟩ := h
  ⟨f, G2, F2, H2, l, r, rf, hq _ _ _ f q⟩
theorem T.mono {c : Code} {Q' : Exit → AF → AS → Prop} (h : T P n b c F H Q) (hq : ∀ e F H, Exit.fine e → Q e F H → Q' e F H) : T P n b c F H Q' :=
  fun G0 G w a hd hle hr hF => wp_mono (h G0 G w a hd hle hr hF) fun _ _ _ hp => hp.mono hq
theorem T_skip (h : Q .normal F H) : T P n b .skip F H Q := fun _ G _ _ _ hle hr hF => wp_skip ⟨trivial, G, F, H, hle, hr, hF, h⟩
theorem T_ret (h : Q .ret F H) : T P n b .ret F H Q := fun _ G _ _ _ hle hr hF => wp_ret ⟨trivial, G, F, H, hle, hr, hF, h⟩
theorem T_exit {id : Nat} (h : Q (.exit id) F H) : T P n b (.exit id) F H Q := fun _ G _ _ _ hle hr hF => wp_exit ⟨trivial, G, F, H, hle, hr, hF, h⟩
theorem T_goto {l : Nat} (h : Q (.goto l) F H) : T P n b (.goto l) F H Q := fun _ G _ _ _ hle hr hF => wp_goto ⟨trivial, G, F, H, hle, hr, hF, h⟩
theorem T_label {l : Nat} (h : Q .normal F H) : T P n b (.label l) F H Q := fun _ G _ _ _ hle hr hF => wp_label ⟨trivial, G, F, H, hle, hr, hF, h⟩
/-- As Q; by a goto to l: J. -/
def jumpT (l : Nat) (J : AF → AS → Prop) (Q : Exit → AF → AS → Prop) : Exit → AF → AS → Prop
  | .goto l', F, H => l' = l ∧ J F H
  | e, F, H => Q e F H
@[simp] theorem jumpT_normal (l : Nat) (J : AF → AS → Prop) (F : AF) (H : AS) : jumpT l J Q .normal F H = Q .normal F H := rfl
@[simp] theorem jumpT_ret (l : Nat) (J : AF → AS → Prop) (F : AF) (H : AS) : jumpT l J Q .ret F H = Q .ret F H := rfl
@[simp] theorem jumpT_exit (l id : Nat) (J : AF → AS → Prop) (F : AF) (H : AS) : jumpT l J Q (.exit id) F H = Q (.exit id) F H := rfl
@[simp] theorem jumpT_goto (l l' : Nat) (J : AF → AS → Prop) (F : AF) (H : AS) : jumpT l J Q (.goto l') F H = (l' = l ∧ J F H) := rfl
/-- A scope: jumps to one label, from which none jumps again. -/
theorem T_scope {c rest : Code} (l : Nat) (J : AF → AS → Prop) (hf : findLabel c l = some rest) (first : T P n b c F H (jumpT l J Q)) (pass : ∀ F H, J F H → T P n b rest F H (jumpT l (fun _ _ => False) Q)) : T P n b (.scope c) F H Q := fun G0 G w a hd hle hr hF => by
  have turn : ∀ {R : AF → AS → Prop} {e : Exit} {a : Act} {w : World}, PostOf n G0 (jumpT l R Q) e a w → Exit.jump l (fun a w => ∃ G' F' H', G0.le G' ∧ Rel G' H' w ∧ RepF n G' F' a ∧ R F' H') (PostOf n G0 Q) e a w := by
    rintro R e a w ⟨hf, G', F', H', hle', hr', hF', hq⟩
    cases e with
    | normal => exact ⟨hf, G', F', H', hle', hr', hF', hq⟩
    | exit id => exact ⟨hf, G', F', H', hle', hr', hF', hq⟩
    | goto l' => exact ⟨hq.1, G', F', H', hle', hr', hF', hq.2⟩
    | ret => exact ⟨hf, G', F', H', hle', hr', hF', hq⟩
    | panic c => exact hf.elim
    | outgrown => exact hf.elim
  refine wp_scope_jumps l (fun a w => ∃ G' F' H', G0.le G' ∧ Rel G' H' w ∧ RepF n G' F' a ∧ J F' H') (fun _ _ => 0) hf (wp_mono (first G0 G w a hd hle hr hF) fun _ _ _ h => turn h) ?_
  rintro a w ⟨G', F', H', hle', hr', hF', hj⟩
  refine wp_mono (pass F' H' hj G0 G' w a hd hle' hr' hF') fun e a' w' h => ?_
  have h := turn h
  cases e with
  | goto l' => obtain ⟨_, _, _, _, _, _, _, hfalse⟩ := h; exact hfalse.elim
  | _ => exact h
theorem T_region {id : Nat} {ops : Array Oper} (hok : regionOk n ops = true) (h : aList P ops ops.toList F H (Q .normal)) : T P n b (.region id ops false) F H Q := fun G0 G w a _ hle0 hr hF => by
  refine wp_region ?_
  have := aList_sound (P := P) hok (Q := PostOf n G0 Q) ops.toList 0 (fun i => by simp) hr hF h (fun G' F' H' a' w' hle hr' hF' hq => ⟨trivial, G', F', H', hle0.trans hle, hr', hF', hq⟩)
  rwa [show List.range' 0 ops.toList.length = List.range ops.size by simp [List.range_eq_range']] at this
def thenT (P : Program) (n b : Nat) (y : Code) (Q : Exit → AF → AS → Prop) : Exit → AF → AS → Prop
  | .normal, F, H => T P n b y F H Q
  | e, F, H => Q e F H
@[simp] theorem thenT_normal (y : Code) (F : AF) (H : AS) : thenT P n b y Q .normal F H = T P n b y F H Q := rfl
@[simp] theorem thenT_ret (y : Code) (F : AF) (H : AS) : thenT P n b y Q .ret F H = Q .ret F H := rfl
@[simp] theorem thenT_goto (y : Code) (l : Nat) (F : AF) (H : AS) : thenT P n b y Q (.goto l) F H = Q (.goto l) F H := rfl
@[simp] theorem thenT_exit (y : Code) (id : Nat) (F : AF) (H : AS) : thenT P n b y Q (.exit id) F H = Q (.exit id) F H := rfl
theorem T_seq {x y : Code} (h : T P n b x F H (thenT P n b y Q)) : T P n b (.seq x y) F H Q := fun G0 G w a hd hle hr hF => by
  refine wp_seq (wp_mono (h G0 G w a hd hle hr hF) ?_)
  rintro e a' w' ⟨hf, G', F', H', hle', hr', hF', hq⟩
  cases e with
  | normal => exact hq G0 G' w' a' hd hle' hr' hF'
  | exit id => exact ⟨hf, G', F', H', hle', hr', hF', hq⟩
  | goto l => exact ⟨hf, G', F', H', hle', hr', hF', hq⟩
  | ret => exact ⟨hf, G', F', H', hle', hr', hF', hq⟩
  | panic c => exact hf.elim
  | outgrown => exact hf.elim
theorem T_cond {c : Operand} {x y : Code} {t : Bool} (hc : F.ev c = .val (.bool t)) (ht : t = true → T P n b x F H Q) (hf : t = false → T P n b y F H Q) : T P n b (.cond c x y) F H Q := fun G0 G w a hd hle hr hF => by
  have hev : a.eval c = .bool t := by
    cases c with
    | tmp s => exact rep_val (hc ▸ hF.ev (x := .tmp s) rfl)
    | const v =>
      cases v with
      | bool b' => have : b' = t := by simpa using hc
                   subst this; rfl
      | _ => simp [AF.ev, PV.lit] at hc
    | global g => simp at hc
    | func f => simp at hc
  exact wp_cond_split hev (fun e => ht e G0 G w a hd hle hr hF) (fun e => hf e G0 G w a hd hle hr hF)
def blockT (id : Nat) (Q : Exit → AF → AS → Prop) : Exit → AF → AS → Prop
  | .exit id', F, H => if id' = id then Q .normal F H else Q (.exit id') F H
  | e, F, H => Q e F H
@[simp] theorem blockT_normal (id : Nat) (F : AF) (H : AS) : blockT id Q .normal F H = Q .normal F H := rfl
@[simp] theorem blockT_ret (id : Nat) (F : AF) (H : AS) : blockT id Q .ret F H = Q .ret F H := rfl
@[simp] theorem blockT_goto (id l : Nat) (F : AF) (H : AS) : blockT id Q (.goto l) F H = Q (.goto l) F H := rfl
@[simp] theorem blockT_exit (id id' : Nat) (F : AF) (H : AS) : blockT id Q (.exit id') F H = if id' = id then Q .normal F H else Q (.exit id') F H := rfl
theorem T_block {id : Nat} {c : Code} (h : T P n b c F H (blockT id Q)) : T P n b (.block id c) F H Q := fun G0 G w a hd hle hr hF => by
  refine wp_block (wp_mono (h G0 G w a hd hle hr hF) ?_)
  rintro e a' w' ⟨hf, G', F', H', hle', hr', hF', hq⟩
  cases e with
  | normal => exact ⟨hf, G', F', H', hle', hr', hF', hq⟩
  | exit id' =>
    simp only [Exit.inBlock]
    simp only [blockT_exit] at hq
    split
    · rename_i e; rw [if_pos e] at hq; exact ⟨trivial, G', F', H', hle', hr', hF', hq⟩
    · rename_i e; rw [if_neg e] at hq; exact ⟨trivial, G', F', H', hle', hr', hF', hq⟩
  | goto l => exact ⟨hf, G', F', H', hle', hr', hF', hq⟩
  | ret => exact ⟨hf, G', F', H', hle', hr', hF', hq⟩
  | panic c => exact hf.elim
  | outgrown => exact hf.elim
theorem exists_least {p : Nat → Prop} : ∀ k, p k → ∃ m, p m ∧ ∀ j, p j → m ≤ j := by
  intro k
  induction k using Nat.strongRecOn with
  | _ k ih =>
    intro hk
    by_cases h : ∃ j, j < k ∧ p j
    · obtain ⟨j, hj, hp⟩ := h; exact ih j hj hp
    · exact ⟨k, hk, fun j hj => Nat.le_of_not_lt fun hlt => h ⟨j, hlt, hj⟩⟩
def loopT (I : Nat → AF → AS → Prop) (k : Nat) (Q : Exit → AF → AS → Prop) : Exit → AF → AS → Prop
  | .normal, F, H => ∃ k', k' < k ∧ I k' F H
  | e, F, H => Q e F H
@[simp] theorem loopT_normal (I : Nat → AF → AS → Prop) (k : Nat) (F : AF) (H : AS) : loopT I k Q .normal F H = ∃ k', k' < k ∧ I k' F H := rfl
@[simp] theorem loopT_ret (I : Nat → AF → AS → Prop) (k : Nat) (F : AF) (H : AS) : loopT I k Q .ret F H = Q .ret F H := rfl
@[simp] theorem loopT_goto (I : Nat → AF → AS → Prop) (k l : Nat) (F : AF) (H : AS) : loopT I k Q (.goto l) F H = Q (.goto l) F H := rfl
@[simp] theorem loopT_exit (I : Nat → AF → AS → Prop) (k id : Nat) (F : AF) (H : AS) : loopT I k Q (.exit id) F H = Q (.exit id) F H := rfl
/-- A loop: an invariant with a number that falls. -/
theorem T_loop {c : Code} (I : Nat → AF → AS → Prop) (k : Nat) (h0 : I k F H)
    (hstep : ∀ k F H, I k F H → T P n b c F H (loopT I k Q)) : T P n b (.loop c) F H Q := fun G0 G w a hd hle hr hF => by
  classical
  let J : Nat → Act → World → Prop := fun k a w => ∃ G' F' H', G0.le G' ∧ Rel G' H' w ∧ RepF n G' F' a ∧ I k F' H'
  let μ : Act → World → Nat := fun a w => if h : ∃ k, J k a w then Classical.choose (exists_least (p := fun k => J k a w) _ h.choose_spec) else 0
  have hJ : ∀ {k a w}, J k a w → J (μ a w) a w ∧ μ a w ≤ k := fun {k a w} h => by
    have hex : ∃ k, J k a w := ⟨k, h⟩
    have hs := Classical.choose_spec (exists_least (p := fun k => J k a w) _ hex.choose_spec)
    simp only [μ, dif_pos hex]
    exact ⟨hs.1, hs.2 k h⟩
  refine wp_loop (fun a w => ∃ k, J k a w) μ ⟨k, G, F, H, hle, hr, hF, h0⟩ ?_
  rintro a w ⟨k, hk⟩
  obtain ⟨G1, F1, H1, le1, r1, f1, i1⟩ := (hJ hk).1
  refine wp_mono (hstep _ _ _ i1 G0 G1 w a hd le1 r1 f1) ?_
  rintro e a' w' ⟨hf, G', F', H', hle', hr', hF', hq⟩
  cases e with
  | normal =>
    obtain ⟨k', hlt, hi⟩ := hq
    have hj : J k' a' w' := ⟨G', F', H', hle', hr', hF', hi⟩
    exact ⟨⟨k', hj⟩, Nat.lt_of_le_of_lt (hJ hj).2 hlt⟩
  | exit id => exact ⟨hf, G', F', H', hle', hr', hF', hq⟩
  | goto l => exact ⟨hf, G', F', H', hle', hr', hF', hq⟩
  | ret => exact ⟨hf, G', F', H', hle', hr', hF', hq⟩
  | panic c => exact hf.elim
  | outgrown => exact hf.elim
/-- Memory that was there is there still. -/
structure AS.Ext (H H' : AS) : Prop where
  next : H.next ≤ H'.next
  box : ∀ id, id < H.next → H'.box id = H.box id
  mp : ∀ id, id < H.next → H'.mp id = H.mp id
  color : H'.color = H.color
theorem AS.Ext.refl (H : AS) : H.Ext H := ⟨Nat.le_refl _, fun _ _ => rfl, fun _ _ => rfl, rfl⟩
theorem AS.Ext.trans {H1 H2 H3 : AS} (h : H1.Ext H2) (h' : H2.Ext H3) : H1.Ext H3 :=
  ⟨Nat.le_trans h.next h'.next, fun id hi => by rw [h'.box id (Nat.lt_of_lt_of_le hi h.next), h.box id hi], fun id hi => by rw [h'.mp id (Nat.lt_of_lt_of_le hi h.next), h.mp id hi], by rw [h'.color, h.color]⟩
theorem AS.Ext.setBox {H1 H2 : AS} {id : Nat} {rows : List (List PV)} (hi : H1.next ≤ id) (h : H1.Ext H2) : H1.Ext (H2.setBox id rows) :=
  ⟨h.next, fun i hlt => by rw [setBox_box, if_neg (by omega)]; exact h.box i hlt, h.mp, h.color⟩
theorem AS.Ext.kill {H1 H2 : AS} {id : Nat} (hi : H1.next ≤ id) (h : H1.Ext H2) : H1.Ext (H2.kill id) :=
  ⟨h.next, fun i hlt => by rw [kill_box, if_neg (by omega)]; exact h.box i hlt, h.mp, h.color⟩
theorem AS.Ext.bump {H1 H2 : AS} {m : Nat} (h : H1.Ext H2) : H1.Ext (H2.bump m) := ⟨by have := h.next; simp; omega, h.box, h.mp, h.color⟩
theorem AS.Ext.setMap {H1 H2 : AS} {id : Nat} {es : List (Value × PV)} (hi : H1.next ≤ id) (h : H1.Ext H2) : H1.Ext (H2.setMap id es) :=
  ⟨h.next, h.box, fun i hlt => by rw [setMap_mp, if_neg (by omega)]; exact h.mp i hlt, h.color⟩
theorem Rel.dom' {G : Gh} {H : AS} {w : World} (h : Rel G H w) : G.Dom H.next := ⟨by rw [h.next]; exact Nat.le_refl _, fun i l x e => h.dom i l x e, fun i x e => h.mdom i x e⟩
/-- Weaker: a frame that forgets, a memory that forgets. -/
theorem T_forget {c : Code} {F0 : AF} {H0 : AS} (h : T P n b c F0 H0 Q) (hwf : WF H0) (hb : b ≤ H0.next) (hext : H0.Ext H) (hF : ∀ t, F0 t = .junk ∨ (F0 t = F t ∧ Below H0.next (F t))) : T P n b c F H Q := fun G0 G w a hd hle hr hFr => by
  obtain ⟨hle', hr'⟩ := hr.forget hle (H1 := H0) (Nat.le_trans hd.next hb) (fun id rows e => by rw [hext.box id (hwf.box _ _ e).1]; exact e) (fun id es e => by rw [hext.mp id (hwf.mp _ _ e).1]; exact e) hwf hd.view hd.mview
  refine h G0 _ w a hd hle' hr' ⟨hFr.defers, hFr.size, fun t => ?_⟩
  rcases hF t with e | ⟨e, hbel⟩
  · rw [e]; exact .junk _
  · rw [e]; exact (hFr.rep t).cutAt hbel
/-- What a function hands back. -/
def aResults (P : Program) (F : AF) (H : AS) : List ResultVar → Option (List PV)
  | [] => some []
  | .tmp t :: rs => (aResults P F H rs).map (F t :: ·)
  | .cell t ty :: rs => match aload P H ty (F t), aResults P F H rs with
    | some q, some qs => some (q :: qs)
    | _, _ => none
def packed : List PV → PV
  | [p] => p
  | ps => .tuple ps
def frame0 (args : List PV) : AF := fun t => (args[t]?).getD (.val undef)
theorem frame0_rep {G : Gh} {args : List PV} {vs : List Value} (h : RepAll G args vs) (m : Nat) : RepF (vs.length + m) G (frame0 args) { tmps := vs.toArray ++ Array.replicate m undef, defers := [] } := by
  obtain ⟨hl, hg⟩ := h.get
  refine ⟨rfl, by simp, fun t => ?_⟩
  by_cases ht : t < vs.length
  · have ht' : t < args.length := by omega
    have := hg t args[t] vs[t] (List.getElem?_eq_getElem ht') (List.getElem?_eq_getElem ht)
    simp only [frame0, List.getElem?_eq_getElem ht', Option.getD_some]
    rw [show (vs.toArray ++ Array.replicate m undef).getD t undef = vs[t] by
      rw [Array.getD_eq_getD_getElem?, Array.getElem?_append_left (by simpa using ht)]; simp [ht]]
    exact this
  · have ht' : ¬ t < args.length := by omega
    simp only [frame0, List.getElem?_eq_none (Nat.le_of_not_lt ht'), Option.getD_none]
    rw [show (vs.toArray ++ Array.replicate m undef).getD t undef = undef by
      rw [Array.getD_eq_getD_getElem?, Array.getElem?_append_right (by simp; omega)]
      rw [Array.getElem?_replicate]; split <;> rfl]
    exact .val _
def resOf (tmps : Array Value) : ResultVar → Sem Value
  | .tmp t => pure (tmps.getD t undef)
  | .cell c t => do loadVar t (← asAddr (tmps.getD c undef))
theorem aResults_sound {G : Gh} {w : World} (hr : Rel G H w) {a : Act} (hF : RepF n G F a) : ∀ (rs : List ResultVar) (qs : List PV), aResults P F H rs = some qs →
    ∃ vs : List Value, (rs.mapM (resOf a.tmps)).run P w = .ok vs w ∧ RepAll G qs vs
  | [], qs, h => by simp [aResults] at h; subst h; exact ⟨[], rfl, trivial⟩
  | .tmp t :: rs, qs, h => by
    simp only [aResults, Option.map_eq_some_iff] at h
    obtain ⟨qs', hq, rfl⟩ := h
    obtain ⟨vs, hrun, hall⟩ := aResults_sound hr hF rs qs' hq
    refine ⟨a.tmps.getD t undef :: vs, ?_, hF.rep t, hall⟩
    rw [List.mapM_cons]
    simp only [resOf, Sem.run_bind, Sem.run_pure, Result.andThen_ok, hrun]
  | .cell c t :: rs, qs, h => by
    unfold aResults at h
    split at h
    · rename_i q qs' hq hqs
      simp at h; subst h
      obtain ⟨vs, hrun, hall⟩ := aResults_sound hr hF rs qs' hqs
      obtain ⟨v, hv, hrep⟩ := aload_sound hr (hF.rep c) hq
      refine ⟨v :: vs, ?_, hrep, hall⟩
      rw [List.mapM_cons]
      have haddr : ∀ u, Rep G (F c) u → ∃ ad, u = .pointer (some ad) := by
        intro u hu
        unfold aload at hq
        split at hq
        · rename_i e; rw [e] at hu; cases hu; exact ⟨_, rfl⟩
        · rename_i e; rw [e] at hu; cases hu; exact ⟨_, rfl⟩
        · cases hq
      obtain ⟨ad, had⟩ := haddr _ (hF.rep c)
      simp only [resOf]
      rw [had] at hv ⊢
      simp only [Instr.loadAt, Instr.sureAddr, Sem.run_bind, Sem.run_pure, Result.andThen_ok] at hv
      simp only [Sem.run_bind, asAddr, Sem.run_pure, Result.andThen_ok, hv, hrun]
    · cases h
theorem frzV_sound {G : Gh} {w : World} (h : Rel G H w) {p : PV} {v : Value} (hp : Rep G p v) : ∃ G', G.le G' ∧ Rel G' (frzV H p).2 w ∧ Rep G' (frzV H p).1 v := by
  cases p with
  | agg cs =>
    cases hp with
    | agg h1 h2 h3 =>
      rename_i vs
      obtain ⟨G', hle, hr, hl, hall⟩ := frzL_sound cs h (vs := fun j => (vs[j]?).getD undef) (fun j p hp => by
        have hlt : j < vs.size := by rw [← h1]; exact (List.getElem?_eq_some_iff.1 hp).1
        have := h3 j p vs[j] hp (by simp [hlt])
        simpa [hlt] using this)
      refine ⟨G', hle, hr, .agg (by rw [hl]; exact h1) h2 fun j p v hp hv => ?_⟩
      have := hall j p hp
      simp only [hv, Option.getD_some] at this; exact this
  | _ => exact frz_sound h hp
theorem frzVs_sound {w : World} : ∀ (ps : List PV) {G : Gh} {H : AS} (_ : Rel G H w) {vs : List Value} (_ : RepAll G ps vs), ∃ G', G.le G' ∧ Rel G' (frzVs H ps).2 w ∧ RepAll G' (frzVs H ps).1 vs
  | [], G, H, h, vs, hl => ⟨G, .refl G, h, by cases vs with | nil => trivial | cons => exact hl.elim⟩
  | p :: ps, G, H, h, [], hl => hl.elim
  | p :: ps, G, H, h, v :: vs, hl => by
    obtain ⟨G1, le1, r1, p1⟩ := frzV_sound h hl.1
    obtain ⟨G2, le2, r2, p2⟩ := frzVs_sound ps r1 (hl.2.mono le1)
    exact ⟨G2, le1.trans le2, r2, p1.mono le2, p2⟩
theorem packed_rep {G : Gh} : ∀ {ps : List PV} {vs : List Value}, RepAll G ps vs → Rep G (packed ps) (if h : vs.length = 1 then vs[0]'(by omega) else .tuple vs.toArray)
  | [p], [v], h => h.1
  | [], [], _ => .tuple (by simp) (fun j p v hp => by simp at hp)
  | p :: q :: ps, v :: u :: vs, h => by
    obtain ⟨h1, h2⟩ := h.get
    exact .tuple (by simpa using h1) (fun j p v hp hv => h2 j p v hp (by simpa using hv))
  | [], _ :: _, h => h.elim
  | _ :: _, [], h => h.elim
  | [_], _ :: _ :: _, h => h.2.elim
  | _ :: _ :: _, [_], h => h.2.elim
/-- What the body owes: results, frozen; what it made, forgotten as far as wanted. -/
def Owes (P : Program) (fn : Func) (H : AS) (k : PV → AS → Prop) (e : Exit) (F' : AF) (H' : AS) : Prop :=
  (e = .normal ∨ e = .ret) ∧ match aResults P F' H' fn.results.toList with
    | some rs => ∃ H1, H.next ≤ H1.next ∧ H1.Ext (frzVs H' rs).2 ∧ WF H1 ∧ (∀ p ∈ (frzVs H' rs).1, Below H1.next p) ∧ k (packed (frzVs H' rs).1) H1
    | none => False
theorem below_packed {m : Nat} : ∀ {ps : List PV}, (∀ p ∈ ps, Below m p) → Below m (packed ps)
  | [p], h => h p (by simp)
  | [], h => .tuple h
  | _ :: _ :: _, h => .tuple h
theorem ACalls_intro {f : FuncId} {fn : Func} {c : Code} {args : List PV} {k : PV → AS → Prop} (hf : P.funcs[f]? = some fn) (hb : fn.body = some c) (hname : (fn.name == "runtime.NumGoroutine") = false) (hargs : args.length ≤ fn.ntmps)
    (h : WF H → (∀ p ∈ args, Below H.next p) → T P fn.ntmps H.next c (frame0 args) H (Owes P fn H k)) : ACalls P f args H k := by
  refine .inl ⟨⟨fn, hf, by rw [hb]; rfl, hname⟩, fun G w vs hr hall => ?_⟩
  have hlen := hall.get.1
  have hbel : ∀ p ∈ args, Below H.next p := fun p hp => by
    obtain ⟨j, hj⟩ := List.getElem?_of_mem hp
    have hlt : j < vs.length := by rw [← hlen]; exact (List.getElem?_eq_some_iff.1 hj).1
    exact (hall.get.2 j p vs[j] hj (List.getElem?_eq_getElem hlt)).isBelow (fun i l x e => by rw [← hr.next]; exact hr.dom i l x e) (fun i x e => by rw [← hr.next]; exact hr.mdom i x e)
  have hT := h hr.wf hbel G G w _ hr.dom' (.refl G) hr (by
    have := frame0_rep hall (fn.ntmps - vs.length)
    rwa [show vs.length + (fn.ntmps - vs.length) = fn.ntmps by omega] at this)
  refine calls_of_wp hf hb ?_
  rw [show vs.toArray.size = vs.length by simp]
  refine wp_mono hT ?_
  rintro e a' w' ⟨hfine, G', F', H', hle, hr', hF', hex, howe⟩
  split at howe
  · rename_i rs hrs
    obtain ⟨H1, hn1, hext, hwf, hbel1, hk⟩ := howe
    obtain ⟨us, hrun, hall'⟩ := aResults_sound hr' hF' _ _ hrs
    obtain ⟨G2, le2, r2, p2⟩ := frzVs_sound rs hr' hall'
    obtain ⟨le3, r3⟩ := r2.forget (hle.trans le2) (H1 := H1) (by rw [hr.next]; exact hn1) (fun id rows e => by rw [hext.box id (hwf.box _ _ e).1]; exact e) (fun id es e => by rw [hext.mp id (hwf.mp _ _ e).1]; exact e) hwf (fun i l x e => hr.dom i l x e) (fun i x e => hr.mdom i x e)
    have hrep := (packed_rep p2).cutAt (below_packed hbel1)
    have hres : (results fn a'.tmps).run P w' = .ok (if h : us.length = 1 then us[0]'(by omega) else .tuple us.toArray) w' := by
      unfold results
      rw [Array.mapM_eq_mapM_toList]
      show Sem.run P (Bind.bind (Bind.bind (fn.results.toList.mapM (resOf a'.tmps)) (pure ∘ List.toArray)) _) w' = _
      simp only [Sem.run_bind, hrun, Result.andThen_ok, Function.comp, Sem.run_pure]
      simp
    have fin : a'.defers = [] ∧ ∃ v, (results fn a'.tmps).run P w' = .ok v w' ∧ ∃ v' G' q H', Ending.returned v = .returned v' ∧ G.le G' ∧ Rel G' H' w' ∧ Rep G' q v' ∧ k q H' :=
      ⟨hF'.defers, _, hres, _, _, _, _, rfl, le3, r3, hrep, hk⟩
    rcases hex with rfl | rfl
    · exact fin
    · exact fin
  · exact howe.elim
end
section
variable {P : Program} {ops : Array Oper} {F : AF} {H : AS} {n b : Nat} {S : AS → Prop} {J : Nat → AS → AS → Prop}
def aWanted (ops : Array Oper) (F : AF) (o : Oper) : Option Bool :=
  match o.guard with
  | none => some true
  | some (j, want) => match (ops[j]?).bind (·.dst) with
    | some t => match guardOf (F t) with
      | some (some b) => some (b == want)
      | some none => some false
      | none => none
    | none => none
def aStep (P : Program) (ops : Array Oper) (i : Nat) (F : AF) (H : AS) (k : AF → AS → Prop) : Prop :=
  match ops[i]? with
  | none => k F H
  | some o => match aWanted ops F o with
    | some true => aOp P F H o fun q H' => k (F.put o.dst q) H'
    | some false => k (F.put o.dst (.val undef)) H
    | none => False
def aAny (P : Program) (ops : Array Oper) (J : Nat → AS → AS → Prop) (K : AF → AS → Prop) : Nat → Array Bool → AF → AS → Prop
  | 0, listed, F, H => Region.ready .any ops listed = [] ∧ K F H
  | fuel + 1, listed, F, H => (Region.ready .any ops listed = [] → K F H) ∧
      ∀ i ∈ Region.ready .any ops listed, aStep P ops i F H fun F' H' => J i H H' ∧ aAny P ops J K fuel (listed.setIfInBounds i true) F' H'
theorem aWanted_sound {G : Gh} {a : Act} (hok : regionOk n ops = true) (hF : RepF n G F a) {o : Oper} {r : Bool} (h : aWanted ops F o = some r) : Region.wanted o (yielded ops a.tmps) = r := by
  unfold aWanted at h
  split at h
  · rename_i hg; simp at h; simp [Region.wanted, hg, h]
  · rename_i j want hg
    split at h
    · rename_i t hj
      split at h
      · rename_i b hb
        have ht : t < n := by
          cases ho : ops[j]? with
          | none => rw [ho] at hj; cases hj
          | some o' => rw [ho] at hj; exact (regionOk_spec hok ho).1 t hj
        have hy := yielded_of hF hj ht (guardOf_some hb)
        simp at h
        simp [Region.wanted, hg, hy, ← h]
      · rename_i hb
        have hy := yielded_none hF hj (guardOf_none hb)
        simp at h
        simp [Region.wanted, hg, hy, ← h]
      · cases h
    · cases h
theorem aAny_sound (hok : regionOk n ops = true) {Q : Exit → AF → AS → Prop} {G0 : Gh} : ∀ (fuel : Nat) (listed : Array Bool) {G : Gh} {H : AS} {w : World} {F : AF} {a : Act}, G0.le G → Rel G H w → RepF n G F a →
    aAny P ops J (Q .normal) fuel listed F H → wpAny P .any ops (PostOf n G0 Q) fuel listed a w
  | 0, listed, G, H, w, F, a, hle, hr, hF, h => ⟨h.1, trivial, G, F, H, hle, hr, hF, h.2⟩
  | fuel + 1, listed, G, H, w, F, a, hle, hr, hF, h => by
    refine ⟨fun e => ⟨trivial, G, F, H, hle, hr, hF, h.1 e⟩, fun i hi => ?_⟩
    have hs := h.2 i hi
    unfold aStep at hs
    unfold wpOp
    cases ho : ops[i]? with
    | none => rw [ho] at hs; exact aAny_sound hok fuel _ hle hr hF hs.2
    | some o =>
      rw [ho] at hs
      obtain ⟨hd, hlit⟩ := regionOk_spec hok ho
      dsimp only at hs ⊢
      split at hs
      · rename_i hw
        rw [aWanted_sound hok hF hw]
        refine .inl (aOp_sound hr hF hlit hs ?_)
        exact fun G' q H' v w' hle' hrel hrep hk => aAny_sound hok fuel _ (hle.trans hle') hrel ((hF.mono hle').put hd hrep) hk.2
      · rename_i hw
        rw [aWanted_sound hok hF hw]
        exact aAny_sound hok fuel _ hle hr (hF.put hd (.val _)) hs.2
      · exact hs.elim
theorem aappendX_mono {fq : Bool} {sT xT : TypeId} {x y : PV} {k k' : PV → AS → Prop} (hk : ∀ q H', k q H' → k' q H') (h : aappendX fq P H sT xT x y k) : aappendX fq P H sT xT x y k' := by
  unfold aappendX at *
  split at h
  case h_2 => exact h.elim
  split at h
  case h_2 => exact h.elim
  refine ⟨h.1, ?_⟩
  have h := h.2
  split at h
  case h_2 => exact h.elim
  split at h
  · split at h
    · rename_i h0; rw [if_pos h0]; exact hk _ _ h
    · rename_i h0; rw [if_neg h0]; exact ⟨h.1, hk _ _ h.2⟩
  · split at h
    · exact ⟨h.1, hk _ _ h.2⟩
    · exact h.elim
  · exact h.elim
theorem aappend_mono {sT xT : TypeId} {x y : PV} {k k' : PV → AS → Prop} (hk : ∀ q H', k q H' → k' q H') (h : aappend P H sT xT x y k) : aappend P H sT xT x y k' := by
  rcases h with h | h
  · exact .inl (aappendX_mono hk h)
  · exact .inr (aappendX_mono hk h)
theorem aOp_mono {o : Oper} {k k' : PV → AS → Prop} (hk : ∀ q H', k q H' → k' q H') (h : aOp P F H o k) : aOp P F H o k' := by
  unfold aOp at *
  split at h
  all_goals (try split at h)
  all_goals (first
    | exact hk _ _ h
    | exact h.elim
    | exact h.mono hk
    | (obtain ⟨q, H', e, h⟩ := h; exact ⟨q, H', e, hk _ _ h⟩)
    | skip)
  · rcases h with h | h
    · exact .inl (aappendX_mono hk h)
    · exact .inr (aappendX_mono hk h)
  · exact h.mono (fun v => hk _ _) fun h => h.mono fun r => hk _ _
  · exact h.mono (fun q => hk _ _) fun h => h.mono (fun q => hk _ _) fun h => h.mono (fun r => hk _ _) id
theorem aPure_congr {F F' : AF} (o : Oper) (h : ∀ x ∈ o.op.operands, F.ev x = F'.ev x) : aPure P F o = aPure P F' o := by
  obtain ⟨dst, op, ty, pos, after, guard⟩ := o
  have pairs : ∀ ps : Array (Nat × Operand), (∀ x ∈ ps.toList, F.ev x.2 = F'.ev x.2) → (ps.toList.map fun x => (x.1, F.ev x.2)) = (ps.toList.map fun x => (x.1, F'.ev x.2)) := fun ps hp =>
    List.map_congr_left fun x hx => by rw [hp x hx]
  unfold aPure
  cases op <;> simp only [Op.operands] at h <;> dsimp only
  case build t ps => rw [pairs ps fun x hx => h x.2 (by simp; exact ⟨x.1, by simpa using hx⟩)]
  case makeFunc fn first caps =>
    cases fn <;> simp only []
    rw [List.map_congr_left (l := caps.toList) fun x hx => h x (by simp; exact .inr (by simpa using hx)), List.map_congr_left (l := first.toList) fun x hx => h x (by simp; exact .inl (by simpa using hx))]
  case slice t x lo hi mx => cases lo <;> cases hi <;> cases mx <;> simp_all
  case call c =>
    obtain ⟨callee, args, tys⟩ := c
    cases callee with
    | builtin bi =>
      cases bi <;> simp only []
      split
      · rename_i x t e1 e2
        have : args = #[x] := by apply Array.ext'; simpa using e1
        subst this
        rw [h x (by simp [Call.operands])]
      · rfl
      · split
        · rename_i x y e1
          have : args = #[x, y] := by apply Array.ext'; simpa using e1
          subst this
          rw [h x (by simp [Call.operands]), h y (by simp [Call.operands])]
        · rfl
    | _ => rfl
  all_goals (first | rfl | (simp_all; done))
theorem aOp_congr {F F' : AF} (o : Oper) (h : ∀ x ∈ o.op.operands, F.ev x = F'.ev x) (H : AS) (k : PV → AS → Prop) : aOp P F H o k = aOp P F' H o k := by
  have hp := aPure_congr (P := P) o h
  obtain ⟨dst, op, ty, pos, after, guard⟩ := o
  have pairs : ∀ ps : Array (Nat × Operand), (∀ x ∈ ps.toList, F.ev x.2 = F'.ev x.2) → (ps.toList.map fun x => (x.1, F.ev x.2)) = (ps.toList.map fun x => (x.1, F'.ev x.2)) := fun ps hp =>
    List.map_congr_left fun x hx => by rw [hp x hx]
  unfold aOp
  cases op <;> simp only [Op.operands] at h <;> dsimp only
  case buildSlice t len ps => rw [pairs ps fun x hx => h x.2 (by simp; exact ⟨x.1, by simpa using hx⟩)]
  case call c =>
    obtain ⟨callee, args, tys⟩ := c
    cases callee with
    | builtin bi =>
      cases bi <;> simp only [hp]
      split
      · rename_i x y s t e1 e2
        have : args = #[x, y] := by apply Array.ext'; simpa using e1
        subst this
        rw [h x (by simp [Call.operands]), h y (by simp [Call.operands])]
      · rfl
    | value f =>
      simp only []
      rw [h f (by simp [Call.operands]), List.map_congr_left (l := args.toList) fun x hx => h x (by simp [Call.operands]; exact .inr (by simpa using hx))]
    | invoke r m => simp only [hp]
  case binOp op t x y yt => simp only [hp, h x (by simp), h y (by simp)]
  case makeMap t r => cases r <;> simp only [hp]
  all_goals (first | (simp only [hp]; done) | (simp_all; done))
theorem ev_put {F : AF} {dst : Option Tmp} {q : PV} {x : Operand} (h : ∀ d, dst = some d → x ≠ .tmp d) : (F.put dst q).ev x = F.ev x := by
  cases dst with
  | none => rfl
  | some d =>
    cases x with
    | tmp t => have : t ≠ d := fun e => h d rfl (by rw [e])
               simp [this]
    | _ => rfl
theorem put_comm (F : AF) {x y : Option Tmp} (q r : PV) (h : ∀ d, x = some d → y ≠ some d) : (F.put x q).put y r = (F.put y r).put x q := by
  cases x with
  | none => rfl
  | some d =>
    cases y with
    | none => rfl
    | some e =>
      have hne : d ≠ e := fun he => h d rfl (he ▸ rfl)
      funext t
      simp only [AF.put_some]
      by_cases h1 : t = d <;> by_cases h2 : t = e <;> simp_all
theorem aOp_put (o : Oper) (F : AF) (dst : Option Nat) (q : PV) (h : ∀ d, dst = some d → d ∉ o.looksAt ops) (H : AS) (k : PV → AS → Prop) : aOp P (F.put dst q) H o k = aOp P F H o k :=
  aOp_congr o (fun x hx => ev_put fun d hd hxd => h d hd (by
    subst hxd
    exact List.mem_append_left _ (List.mem_filterMap.2 ⟨.tmp d, by simpa using hx, rfl⟩))) H k
theorem aWanted_put (o : Oper) (F : AF) (dst : Option Nat) (q : PV) (h : ∀ d, dst = some d → d ∉ o.looksAt ops) : aWanted ops (F.put dst q) o = aWanted ops F o := by
  cases dst with
  | none => rfl
  | some d =>
    unfold aWanted
    cases hg : o.guard with
    | none => rfl
    | some gw =>
      obtain ⟨g, want⟩ := gw
      dsimp only
      cases ht : (ops[g]?).bind (·.dst) with
      | none => rfl
      | some t =>
        have hne : t ≠ d := fun e => h d rfl (by subst e; simp [Oper.looksAt, hg, ht])
        dsimp only
        rw [AF.put_some, if_neg hne]
/-- In every memory that meets S the operation leaves q and nothing else. -/
def YieldsD (P : Program) (ops : Array Oper) (S : AS → Prop) (o : Oper) (q : PV) (F : AF) : Prop :=
  (aWanted ops F o = some true ∧ ∀ H, S H → aOp P F H o fun r H' => r = q ∧ H' = H) ∨ (aWanted ops F o = some false ∧ q = .val undef)
theorem YieldsD.aStep {i : Nat} {o : Oper} {q : PV} (hi : ops[i]? = some o) (hy : YieldsD P ops S o q F) {k : AF → AS → Prop} (hS : S H) (h : k (F.put o.dst q) H) : aStep P ops i F H k := by
  unfold Go.Abs.aStep
  rw [hi]
  rcases hy with ⟨hw, hv⟩ | ⟨hw, rfl⟩
  · simp only [hw]
    refine aOp_mono ?_ (hv H hS)
    rintro r H' ⟨rfl, rfl⟩; exact h
  · simp only [hw]; exact h
theorem YieldsD.put {o o' : Oper} {q r : PV} (hy : YieldsD P ops S o q F) (h : ∀ d, o'.dst = some d → d ∉ o.looksAt ops) : YieldsD P ops S o q (F.put o'.dst r) := by
  unfold YieldsD at *
  rw [aWanted_put o F _ r h]
  refine hy.imp (fun ⟨h1, h2⟩ => ⟨h1, fun H hS => ?_⟩) id
  rw [aOp_put o F _ r h]; exact h2 H hS
theorem aStep_put {j : Nat} {oi oj : Oper} {q : PV} (hj : ops[j]? = some oj) (hap : oi.apart ops oj = true) {k : AF → AS → Prop} (hy : YieldsD P ops S oi q F) (h : aStep P ops j (F.put oi.dst q) H k) :
    aStep P ops j F H fun F' H' => YieldsD P ops S oi q F' ∧ k (F'.put oi.dst q) H' := by
  obtain ⟨h1, h2, h3⟩ := Oper.apart_spec hap
  unfold Go.Abs.aStep at *
  simp only [hj] at *
  rw [aWanted_put oj F _ q h1] at h
  cases hw : aWanted ops F oj with
  | none => rw [hw] at h; exact h.elim
  | some b =>
    rw [hw] at h
    cases b with
    | true =>
      dsimp only at h ⊢
      rw [aOp_put oj F _ q h1] at h
      refine aOp_mono (fun r H' hk => ⟨hy.put h3, ?_⟩) h
      rw [← put_comm F q r h2]; exact hk
    | false =>
      dsimp only at h ⊢
      exact ⟨hy.put h3, by rw [← put_comm F q _ h2]; exact h⟩
theorem aStep_mono {i : Nat} {k k' : AF → AS → Prop} (hk : ∀ F H, k F H → k' F H) (h : aStep P ops i F H k) : aStep P ops i F H k' := by
  unfold Go.Abs.aStep at *
  split
  · rename_i e; rw [e] at h; exact hk _ _ h
  · rename_i o e
    rw [e] at h
    dsimp only at h ⊢
    split at h
    · exact aOp_mono (fun _ _ => hk _ _) h
    · exact hk _ _ h
    · exact h.elim
theorem aAny_first {K : AF → AS → Prop} {i : Nat} {oi : Oper} {q : PV} (hrefl : ∀ i H, J i H H) (hi : ops[i]? = some oi) :
    ∀ (fuel : Nat) (listed : Array Bool) (F : AF) (H : AS),
      (∀ j oj, ops[j]? = some oj → j ≠ i → listed.getD j true = false → (∀ e ∈ oj.after, Region.binds .any e = true → e.on ≠ i) → oi.apart ops oj = true ∧ ∀ H H', J j H H' → S H → S H') →
      i ∈ Region.ready .any ops listed → YieldsD P ops S oi q F → S H →
      aAny P ops J K fuel (listed.setIfInBounds i true) (F.put oi.dst q) H → aAny P ops J K (fuel + 1) listed F H := by
  intro fuel
  induction fuel with
  | zero =>
    intro listed F H _ hr hy hS hh
    refine ⟨fun h => (by rw [h] at hr; cases hr), fun j hj => ?_⟩
    by_cases hji : j = i
    · subst hji; exact hy.aStep hi hS ⟨hrefl _ _, hh⟩
    · have := ready_mono hj hji
      rw [hh.1] at this
      cases this
  | succ fuel ih =>
    intro listed F H hfree hr hy hS hh
    refine ⟨fun h => (by rw [h] at hr; cases hr), fun j hj => ?_⟩
    by_cases hji : j = i
    · subst hji; exact hy.aStep hi hS ⟨hrefl _ _, hh⟩
    · have h1 := hh.2 j (ready_mono hj hji)
      obtain ⟨hjun, oj, hoj, hall⟩ := mem_ready.1 hj
      have hnot : ∀ e ∈ oj.after, Region.binds .any e = true → e.on ≠ i := fun e he hb heq => by
        have h1 := hall e he hb
        have h0 := (mem_ready.1 hr).1
        rw [heq] at h1
        rcases Nat.lt_or_ge i listed.size with h' | h'
        · simp [h'] at h0 h1; rw [h0] at h1; cases h1
        · simp [Array.getElem?_eq_none h'] at h1
      have h2 := aStep_put hoj (hfree j oj hoj hji hjun hnot).1 hy h1
      have hfree' : ∀ k ok, ops[k]? = some ok → k ≠ i → (listed.setIfInBounds j true).getD k true = false →
          (∀ e ∈ ok.after, Region.binds .any e = true → e.on ≠ i) → oi.apart ops ok = true ∧ ∀ H H', J k H H' → S H → S H' := fun k ok hk hki hun hno => by
        refine hfree k ok hk hki ?_ hno
        by_cases hjk : j = k
        · subst hjk; exact hjun
        · rw [getD_set_ne true hjk] at hun; exact hun
      refine aStep_mono (fun F' H' h3 => ⟨h3.2.1, ih (listed.setIfInBounds j true) F' H' hfree' (ready_mono hr (Ne.symm hji)) h3.1 ((hfree j oj hoj hji hjun hnot).2 _ _ h3.2.1 hS) ?_⟩) h2
      rw [Array.setIfInBounds_comm _ _ hji]
      exact h3.2.2
/-- The order in which a region is walked: 'free' may be taken first whatever else waits; 'sole' comes when it alone may come; 'two': these two may come, in either order. -/
inductive Ord where
  | done
  | free (i : Nat) (r : Ord)
  | sole (i : Nat) (r : Ord)
  | two (i j : Nat) (r s : Ord)
/-- What is late writes to what others read, and is bound to come behind them. -/
def lateOk (ops : Array Oper) (late : List Nat) (i : Nat) : Bool :=
  match ops[i]? with
  | none => false
  | some o => match o.op with
    | .load .. | .call .. => late.all fun j => match ops[j]? with
      | some oj => oj.after.any fun e => Region.binds .any e && e.on == i
      | none => true
    | _ => true
def orderFrom (ops : Array Oper) (late : List Nat) : Ord → Array Bool → Bool
  | .done, listed => (Region.ready .any ops listed).isEmpty
  | .free i c, listed => (Region.ready .any ops listed).contains i && Region.free .any ops listed i && lateOk ops late i && orderFrom ops late c (listed.setIfInBounds i true)
  | .sole i c, listed => Region.ready .any ops listed == [i] && orderFrom ops late c (listed.setIfInBounds i true)
  | .two i j c d, listed => Region.ready .any ops listed == [i, j] && orderFrom ops late c (listed.setIfInBounds i true) && orderFrom ops late d (listed.setIfInBounds j true)
def Ord.size : Ord → Nat
  | .done => 0
  | .free _ r | .sole _ r => r.size + 1
  | .two _ _ r _ => r.size + 1
def Ord.even : Ord → Bool
  | .done => true
  | .free _ r | .sole _ r => r.even
  | .two _ _ r s => r.even && s.even && r.size == s.size
def orderOk (ops : Array Oper) (late : List Nat) (c : Ord) : Bool := c.size == ops.size && c.even && orderFrom ops late c (Array.replicate ops.size false)
/-- What the others read stays. -/
def Same (L : Nat → Prop) (H0 H : AS) : Prop := (∀ id, L id → H.box id = H0.box id) ∧ H.color = H0.color
def Keeps (L : Nat → Prop) (late : List Nat) (i : Nat) (H H' : AS) : Prop := late.contains i = false → Same L H H'
theorem Keeps.refl (L : Nat → Prop) (late : List Nat) (i : Nat) (H : AS) : Keeps L late i H H := fun _ => ⟨fun _ _ => rfl, rfl⟩
/-- A call whose answer is q, whatever else came first. -/
def Ask (P : Program) (L : Nat → Prop) (H : AS) (g : FuncId) (args : List PV) (X : PV → Prop) : Prop :=
  ∃ q, (∀ H', Same L H H' → ACalls P g args H' fun r H'' => r = q ∧ H'' = H') ∧ X q
@[congr] theorem Ask_congr {P : Program} {L : Nat → Prop} {H : AS} {g : FuncId} {args args' : List PV} {X : PV → Prop} (h : args = args') : Ask P L H g args X = Ask P L H g args' X := by rw [h]
theorem Ask.of {P : Program} {L : Nat → Prop} {H : AS} {g : FuncId} {args : List PV} {X : PV → Prop} (q : AS → PV) (hq : ∀ H', Same L H H' → q H' = q H) (hc : ∀ H', Same L H H' → ACalls P g args H' fun r H'' => r = q H' ∧ H'' = H') (hX : X (q H)) : Ask P L H g args X :=
  ⟨q H, fun H' hS => hq H' hS ▸ hc H' hS, hX⟩
@[congr] theorem ACalls_congr {P : Program} {H : AS} {g : FuncId} {args args' : List PV} {k : PV → AS → Prop} (h : args = args') : ACalls P g args H k = ACalls P g args' H k := by rw [h]
/-- A region walked in an order: those that are not free may write, but not to the boxes of L, which the others read. -/
def aWalk (P : Program) (ops : Array Oper) (L : Nat → Prop) (late : List Nat) : Ord → AF → AS → (AF → AS → Prop) → Prop
  | .done, F, H, K => K F H
  | .sole i c, F, H, K => aStep P ops i F H fun F' H' => Keeps L late i H H' ∧ aWalk P ops L late c F' H' K
  | .two i j c d, F, H, K => (aStep P ops i F H fun F' H' => Keeps L late i H H' ∧ aWalk P ops L late c F' H' K) ∧ aStep P ops j F H fun F' H' => Keeps L late j H H' ∧ aWalk P ops L late d F' H' K
  | .free i c, F, H, K => match ops[i]? with
    | none => False
    | some o => match aWanted ops F o with
        | some false => aWalk P ops L late c (F.put o.dst (.val undef)) H K
        | none => False
        | some true => match aPure P F o with
          | some q => aWalk P ops L late c (F.put o.dst q) H K
          | none => match o.op with
            | .load t a => match F.ev a with
              | .rptr _ cells => match partOf P t cells 0 with
                | some q => aWalk P ops L late c (F.put o.dst q) H K
                | none => False
              | .ptr id vl row off => match aload P H t (.ptr id vl row off) with
                | some q => L id ∧ aWalk P ops L late c (F.put o.dst q) H K
                | none => False
              | _ => False
            | .call { callee := .value f, args, .. } => match F.ev f with
              | .func g caps => Ask P L H g (args.toList.map F.ev ++ caps) fun q => aWalk P ops L late c (F.put o.dst q) H K
              | _ => False
            | .binOp op t x y _ => match op, aNilTest P t (F.ev x) (F.ev y) with
              | .eql, [b] => (y matches .const _) = true ∧ aWalk P ops L late c (F.put o.dst (.val (.bool b))) H K
              | .neq, [b] => (y matches .const _) = true ∧ aWalk P ops L late c (F.put o.dst (.val (.bool (!b)))) H K
              | _, _ => False
            | _ => False
theorem aOp_of_pure {o : Oper} {q : PV} {k : PV → AS → Prop} (h : aPure P F o = some q) (hk : k q H) : aOp P F H o k := by
  unfold aOp
  obtain ⟨dst, op, ty, pos, after, guard⟩ := o
  split
  case h_14 => rw [h]; exact hk
  case h_9 => rw [h]; exact hk
  case h_8 => rw [h]; exact hk
  all_goals (rename_i e; dsimp only at e; subst e; simp [aPure] at h)
theorem Same.trans {L : Nat → Prop} {H0 H1 H2 : AS} (h : Same L H0 H1) (h' : Same L H1 H2) : Same L H0 H2 := ⟨fun id hl => (h'.1 id hl).trans (h.1 id hl), h'.2.trans h.2⟩
theorem Same.symm {L : Nat → Prop} {H0 H1 : AS} (h : Same L H0 H1) : Same L H1 H0 := ⟨fun id hl => (h.1 id hl).symm, h.2.symm⟩
theorem lateOk_spec {late : List Nat} {i : Nat} {oi : Oper} (hi : ops[i]? = some oi) (h : lateOk ops late i = true) (hk : match oi.op with | .load .. | .call .. => True | _ => False) {j : Nat} {oj : Oper} (hj : ops[j]? = some oj)
    (hno : ∀ e ∈ oj.after, Region.binds .any e = true → e.on ≠ i) : late.contains j = false := by
  unfold lateOk at h
  rw [hi] at h
  dsimp only at h
  cases hc : late.contains j with
  | false => rfl
  | true =>
    exfalso
    have hm : j ∈ late := by simpa using hc
    have key : (late.all fun j => match ops[j]? with
      | some oj => oj.after.any fun e => Region.binds .any e && e.on == i
      | none => true) = true := by
      split at h
      · exact h
      · exact h
      · split at hk <;> first | exact hk.elim | simp_all
    rw [List.all_eq_true] at key
    have h1 := key j hm
    rw [hj] at h1
    obtain ⟨e, he, hb⟩ := Array.any_eq_true'.1 h1
    simp only [Bool.and_eq_true, beq_iff_eq] at hb
    exact hno e he hb.1 hb.2
theorem aWalk_sound {L : Nat → Prop} {late : List Nat} {K : AF → AS → Prop} : ∀ (c : Ord) (listed : Array Bool) (F : AF) (H : AS), c.even = true → orderFrom ops late c listed = true → aWalk P ops L late c F H K →
    aAny P ops (Keeps L late) K c.size listed F H
  | .done, listed, F, H, _, ho, h => ⟨by simpa [orderFrom] using ho, h⟩
  | .sole i c, listed, F, H, hev, ho, h => by
    unfold orderFrom at ho
    rw [Bool.and_eq_true] at ho
    unfold aWalk at h
    have hr : Region.ready .any ops listed = [i] := by simpa using ho.1
    unfold Ord.size aAny
    constructor
    · intro e; rw [hr] at e; cases e
    intro j hj
    rw [hr] at hj
    have : j = i := by simpa using hj
    subst this
    exact aStep_mono (fun F' H' hk => ⟨hk.1, aWalk_sound c _ F' H' hev ho.2 hk.2⟩) h
  | .two i j c d, listed, F, H, hev, ho, h => by
    unfold orderFrom at ho
    rw [Bool.and_eq_true, Bool.and_eq_true] at ho
    unfold aWalk at h
    simp only [Ord.even, Bool.and_eq_true, beq_iff_eq] at hev
    have hr : Region.ready .any ops listed = [i, j] := by simpa using ho.1.1
    unfold Ord.size aAny
    constructor
    · intro e; rw [hr] at e; cases e
    intro k hk
    rw [hr] at hk
    have : k = i ∨ k = j := by simpa using hk
    rcases this with rfl | rfl
    · exact aStep_mono (fun F' H' hk => ⟨hk.1, aWalk_sound c _ F' H' hev.1.1 ho.1.2 hk.2⟩) h.1
    · refine aStep_mono (fun F' H' hk => ⟨hk.1, ?_⟩) h.2
      rw [hev.2]
      exact aWalk_sound d _ F' H' hev.1.2 ho.2 hk.2
  | .free i c, listed, F, H, hev, ho, h => by
    unfold orderFrom at ho
    rw [Bool.and_eq_true, Bool.and_eq_true, Bool.and_eq_true] at ho
    unfold aWalk at h
    split at h
    · exact h.elim
    · rename_i o hi
      have hr : i ∈ Region.ready .any ops listed := by simpa using ho.1.1.1
      have go0 : ∀ q, YieldsD P ops (fun _ => True) o q F → aWalk P ops L late c (F.put o.dst q) H K → aAny P ops (Keeps L late) K (c.size + 1) listed F H := fun q hy hk =>
        aAny_first (S := fun _ => True) (Keeps.refl L late) hi c.size listed F H (fun j oj hj hne hun hno => ⟨Region.free_spec hi ho.1.1.2 j oj hj hne hun hno, fun _ _ _ h => h⟩) hr hy trivial (aWalk_sound c _ _ H hev ho.2 hk)
      have go : ∀ q, (match o.op with | .load .. | .call .. => True | _ => False) → aWanted ops F o = some true → (∀ H', Same L H H' → aOp P F H' o fun r H'' => r = q ∧ H'' = H') → aWalk P ops L late c (F.put o.dst q) H K → aAny P ops (Keeps L late) K (c.size + 1) listed F H := fun q hkind hw hq hk =>
        aAny_first (S := Same L H) (Keeps.refl L late) hi c.size listed F H (fun j oj hj hne hun hno => ⟨Region.free_spec hi ho.1.1.2 j oj hj hne hun hno, fun _ _ hJ hs => hs.trans (hJ (lateOk_spec hi ho.1.2 hkind hj hno))⟩) hr (.inl ⟨hw, hq⟩) ⟨fun _ _ => rfl, rfl⟩ (aWalk_sound c _ _ H hev ho.2 hk)
      split at h
      · rename_i hw
        exact go0 _ (.inr ⟨hw, rfl⟩) h
      · exact h.elim
      · rename_i hw
        split at h
        · rename_i q hp
          exact go0 q (.inl ⟨hw, fun H' _ => aOp_of_pure hp ⟨rfl, rfl⟩⟩) h
        · rename_i hp
          obtain ⟨dst, op, ty, pos, after, guard⟩ := o
          dsimp only at h go go0
          split at h
          · rename_i t a
            split at h
            · rename_i cc cells e
              split at h
              · rename_i q hq
                exact go q trivial hw (fun H' _ => by unfold aOp; dsimp only; rw [e]; simp [aload, hq]) h
              · exact h.elim
            · rename_i id vl row off e
              split at h
              · rename_i q hq
                refine go q trivial hw (fun H' hS' => ?_) h.2
                unfold aOp; dsimp only; rw [e]
                have : aload P H' t (.ptr id vl row off) = aload P H t (.ptr id vl row off) := by
                  unfold aload; dsimp only; rw [hS'.1 id h.1]
                rw [this, hq]
                exact ⟨rfl, rfl⟩
              · exact h.elim
            · exact h.elim
          · rename_i f args tys
            split at h
            · rename_i g caps e
              obtain ⟨q, hq, hk⟩ := h
              exact go q trivial hw (fun H' hS' => by unfold aOp; dsimp only; rw [e]; exact hq H' hS') hk
            · exact h.elim
          · rename_i op t x y yt
            split at h
            · rename_i b e
              refine go0 _ (.inl ⟨hw, fun H' _ => ?_⟩) h.2
              unfold aOp; dsimp only; rw [hp]; dsimp only
              simp only [e]
              exact ⟨h.1, fun r hr => by simp at hr; simp [hr]⟩
            · rename_i b e
              refine go0 _ (.inl ⟨hw, fun H' _ => ?_⟩) h.2
              unfold aOp; dsimp only; rw [hp]; dsimp only
              simp only [e]
              exact ⟨h.1, fun r hr => by simp at hr; simp [hr]⟩
            · exact h.elim
          · exact h.elim
/-- A statement that leaves its order open. -/
theorem T_draw {id : Nat} {Q : Exit → AF → AS → Prop} (L : Nat → Prop) (late : List Nat) (c : Ord) (hm : P.follows .mixedOrders = true) (hok : regionOk n ops = true) (ho : orderOk ops late c = true) (h : aWalk P ops L late c F H (Q .normal)) : T P n b (.region id ops true) F H Q := fun G0 G w a _ hle hr hF => by
  unfold orderOk at ho
  rw [Bool.and_eq_true, Bool.and_eq_true] at ho
  have hl : c.size = ops.size := by simpa using ho.1.1
  refine wp_region_any hm ?_
  have := aWalk_sound c _ F H ho.1.2 ho.2 h
  rw [hl] at this
  exact aAny_sound hok ops.size _ hle (hr.drew _) hF this
end
section
variable {P : Program} {n b : Nat} {F : AF} {H : AS} {Q : Exit → AF → AS → Prop}
def thenK (K : AF → AS → Prop) (Q : Exit → AF → AS → Prop) : Exit → AF → AS → Prop
  | .normal, F, H => K F H
  | e, F, H => Q e F H
@[simp] theorem thenK_normal (K : AF → AS → Prop) (F : AF) (H : AS) : thenK K Q .normal F H = K F H := rfl
@[simp] theorem thenK_ret (K : AF → AS → Prop) (F : AF) (H : AS) : thenK K Q .ret F H = Q .ret F H := rfl
@[simp] theorem thenK_goto (K : AF → AS → Prop) (l : Nat) (F : AF) (H : AS) : thenK K Q (.goto l) F H = Q (.goto l) F H := rfl
@[simp] theorem thenK_exit (K : AF → AS → Prop) (id : Nat) (F : AF) (H : AS) : thenK K Q (.exit id) F H = Q (.exit id) F H := rfl
/-- One behind the other, what follows behind a name. -/
theorem T_seqk {x y : Code} (h : ∀ K : AF → AS → Prop, (∀ F H, T P n b y F H Q → K F H) → T P n b x F H (thenK K Q)) : T P n b (.seq x y) F H Q :=
  T_seq ((h (fun F H => T P n b y F H Q) fun _ _ h => h).mono fun e F H _ hq => by cases e <;> exact hq)
/-- One behind the other, with what holds between. -/
theorem T_mid {x y : Code} (R : AF → AS → Prop) (h : T P n b x F H (thenK R Q)) (h' : ∀ F H, R F H → T P n b y F H Q) : T P n b (.seq x y) F H Q :=
  T_seq (h.mono fun e F H _ hq => by cases e <;> first | exact h' _ _ hq | exact hq)
theorem wrap_i64 {n : Int} (h : -9223372036854775808 ≤ n) (h' : n < 9223372036854775808) : IntKind.i64.wrap n = n := by
  unfold IntKind.wrap; simp only [IntKind.bits, IntKind.signed, Bool.true_and]
  split
  · rename_i h1; have := of_decide_eq_true h1; omega
  · rename_i h1; have : ¬ _ := fun h => h1 (decide_eq_true h); omega
theorem wrap_u8 {n : Int} (h : 0 ≤ n) (h' : n < 256) : IntKind.u8.wrap n = n := by
  unfold IntKind.wrap; simp [IntKind.bits, IntKind.signed]; omega
theorem frame0_zero (p : PV) (ps : List PV) : frame0 (p :: ps) 0 = p := rfl
theorem frame0_succ (p : PV) (ps : List PV) (t : Nat) : frame0 (p :: ps) (t + 1) = frame0 ps t := by simp [frame0]
/-- A function that leaves memory alone. -/
theorem owes_pure {fn : Func} {q : PV} {F' : AF} {H' : AS} {e : Exit} {rs : List PV} (he : e = .normal ∨ e = .ret) (hwf : WF H) (hr : aResults P F' H' fn.results.toList = some rs) (hext : H.Ext (frzVs H' rs).2) (hb : ∀ p ∈ (frzVs H' rs).1, Below H.next p)
    (hq : packed (frzVs H' rs).1 = q) : Owes P fn H (fun r H'' => r = q ∧ H'' = H) e F' H' := by
  refine ⟨he, ?_⟩
  rw [hr]
  exact ⟨H, Nat.le_refl _, hext, hwf, hb, hq, rfl⟩
theorem sl_get {c sz : Nat} {rows : List (List PV)} {r : List PV} {i : Nat} (h : rows[i]? = some r) : aindex sz (PV.sl c sz rows) (i : Int) = some (.rptr c r) :=
  aindex_sl c sz rows i (Int.natCast_nonneg i) (by simpa using h)
/-- A cell that freezing leaves as it is. -/
def Frozen : PV → Prop
  | .val (.slice none 0 0) => False
  | .msl .. => False
  | _ => True
theorem frz_id {H : AS} {p : PV} (h : Frozen p) : frz H p = (p, H) := by
  unfold frz
  split
  · exact h.elim
  · exact h.elim
  · rfl
@[simp] theorem frzL_nil (H : AS) : frzL H [] = ([], H) := rfl
@[simp] theorem frzR_nil (H : AS) : frzR H [] = ([], H) := rfl
theorem frzL_id {H : AS} : ∀ {l : List PV}, (∀ p ∈ l, Frozen p) → frzL H l = (l, H)
  | [], _ => rfl
  | p :: ps, h => by
    have ih := frzL_id (H := H) (l := ps) fun q hq => h q (List.mem_cons_of_mem _ hq)
    simp [frzL, frz_id (h p (by simp)), ih]
theorem frzR_id {H : AS} : ∀ {l : List (List PV)}, (∀ r ∈ l, ∀ p ∈ r, Frozen p) → frzR H l = (l, H)
  | [], _ => rfl
  | r :: rs, h => by
    have ih := frzR_id (H := H) (l := rs) fun q hq => h q (List.mem_cons_of_mem _ hq)
    simp [frzR, frzL_id (h r (by simp)), ih]
@[simp] theorem frozen_sl (c sz : Nat) (rows : List (List PV)) : Frozen (PV.sl c sz rows) := by cases rows <;> trivial
@[simp] theorem frozen_int (k : IntKind) (n : Int) : Frozen (.val (.int k n)) := trivial
@[simp] theorem frozen_bool (b : Bool) : Frozen (.val (.bool b)) := trivial
@[simp] theorem frozen_string (s : ByteArray) : Frozen (.val (.string s)) := trivial
@[simp] theorem frozen_agg (cs : List PV) : Frozen (.agg cs) := trivial
theorem frzV_one {H : AS} {p : PV} (h : (∀ cs, p = .agg cs → ∀ x ∈ cs, Frozen x) ∧ Frozen p) : frzV H p = (p, H) := by
  cases p with
  | agg cs => simp [frzV, frzL_id (h.1 cs rfl)]
  | _ => exact frz_id h.2
/-- One result, that freezing leaves as it is; memory is as it was. -/
theorem owes_one {P : Program} {H : AS} {fn : Func} {r q : PV} {F' : AF} {H' : AS} {e : Exit} (he : e = .normal ∨ e = .ret) (hwf : WF H) (hr : aResults P F' H' fn.results.toList = some [r]) (hq : r = q)
    (hext : H.Ext H') (hf : (∀ cs, r = .agg cs → ∀ x ∈ cs, Frozen x) ∧ Frozen r) (hb : Below H.next r) : Owes P fn H (fun r H'' => r = q ∧ H'' = H) e F' H' := by
  subst hq
  refine owes_pure he hwf hr ?_ ?_ ?_ <;> simp [frzVs, frzV_one hf, packed]
  · exact hext
  · exact hb
@[simp] theorem below_sl {n c sz : Nat} {rows : List (List PV)} : Below n (PV.sl c sz rows) ↔ ∀ r ∈ rows, ∀ p ∈ r, Below n p := by cases rows <;> simp [PV.sl]
@[simp] theorem color_setBox (H : AS) (id : Nat) (rows : List (List PV)) : (H.setBox id rows).color = H.color := rfl
@[simp] theorem color_bump (H : AS) (n : Nat) : (H.bump n).color = H.color := rfl
@[simp] theorem color_kill (H : AS) (id : Nat) : (H.kill id).color = H.color := rfl
@[simp] theorem color_setMap (H : AS) (id : Nat) (es : List (Value × PV)) : (H.setMap id es).color = H.color := rfl
@[simp] theorem box_setBox (H : AS) (id i : Nat) (rows : List (List PV)) : (H.setBox id rows).box i = if i = id then some rows else H.box i := rfl
@[simp] theorem box_bump (H : AS) (n i : Nat) : (H.bump n).box i = H.box i := rfl
@[simp] theorem box_kill (H : AS) (id i : Nat) : (H.kill id).box i = if i = id then none else H.box i := rfl
@[simp] theorem box_setMap (H : AS) (id i : Nat) (es : List (Value × PV)) : (H.setMap id es).box i = H.box i := rfl
@[simp] theorem mp_setBox (H : AS) (id i : Nat) (rows : List (List PV)) : (H.setBox id rows).mp i = H.mp i := rfl
@[simp] theorem mp_bump (H : AS) (n i : Nat) : (H.bump n).mp i = H.mp i := rfl
@[simp] theorem mp_kill (H : AS) (id i : Nat) : (H.kill id).mp i = H.mp i := rfl
@[simp] theorem mp_setMap (H : AS) (id i : Nat) (es : List (Value × PV)) : (H.setMap id es).mp i = if i = id then some es else H.mp i := rfl
@[simp] theorem next_setBox (H : AS) (id : Nat) (rows : List (List PV)) : (H.setBox id rows).next = H.next := rfl
@[simp] theorem next_bump (H : AS) (n : Nat) : (H.bump n).next = H.next + n := rfl
@[simp] theorem next_kill (H : AS) (id : Nat) : (H.kill id).next = H.next := rfl
@[simp] theorem next_setMap (H : AS) (id : Nat) (es : List (Value × PV)) : (H.setMap id es).next = H.next := rfl
@[simp] theorem cells_int (k : IntKind) (n : Int) : PV.cells (.val (.int k n)) = [.val (.int k n)] := rfl
@[simp] theorem okCells_int (k : IntKind) (n : Int) : PV.okCells (.val (.int k n)) = true := rfl
@[simp] theorem atomic_int (k : IntKind) (n : Int) : PV.atomic (.val (.int k n)) = true := rfl
@[simp] theorem cells_bool (b : Bool) : PV.cells (.val (.bool b)) = [.val (.bool b)] := rfl
@[simp] theorem okCells_bool (b : Bool) : PV.okCells (.val (.bool b)) = true := rfl
@[simp] theorem atomic_bool (b : Bool) : PV.atomic (.val (.bool b)) = true := rfl
@[simp] theorem cells_string (s : ByteArray) : PV.cells (.val (.string s)) = [.val (.string s)] := rfl
@[simp] theorem okCells_string (s : ByteArray) : PV.okCells (.val (.string s)) = true := rfl
@[simp] theorem atomic_string (s : ByteArray) : PV.atomic (.val (.string s)) = true := rfl
@[simp] theorem cells_float (k : FloatKind) (n : Nat) : PV.cells (.val (.float k n)) = [.val (.float k n)] := rfl
@[simp] theorem okCells_float (k : FloatKind) (n : Nat) : PV.okCells (.val (.float k n)) = true := rfl
@[simp] theorem atomic_float (k : FloatKind) (n : Nat) : PV.atomic (.val (.float k n)) = true := rfl
@[simp] theorem cells_vslice (a : Option Addr) (l c : Nat) : PV.cells (.val (.slice a l c)) = [.val (.slice a l c)] := rfl
@[simp] theorem okCells_vslice (a : Option Addr) (l c : Nat) : PV.okCells (.val (.slice a l c)) = true := rfl
@[simp] theorem atomic_vslice (a : Option Addr) (l c : Nat) : PV.atomic (.val (.slice a l c)) = true := rfl
@[simp] theorem cells_pointer (a : Option Addr) : PV.cells (.val (.pointer a)) = [.val (.pointer a)] := rfl
@[simp] theorem okCells_pointer (a : Option Addr) : PV.okCells (.val (.pointer a)) = true := rfl
@[simp] theorem atomic_pointer (a : Option Addr) : PV.atomic (.val (.pointer a)) = true := rfl
@[simp] theorem cells_map (r : Option Nat) : PV.cells (.val (.map r)) = [.val (.map r)] := rfl
@[simp] theorem okCells_map (r : Option Nat) : PV.okCells (.val (.map r)) = true := rfl
@[simp] theorem atomic_map (r : Option Nat) : PV.atomic (.val (.map r)) = true := rfl
@[simp] theorem cells_nilFunc  : PV.cells (.val .nilFunc) = [.val .nilFunc] := rfl
@[simp] theorem okCells_nilFunc  : PV.okCells (.val .nilFunc) = true := rfl
@[simp] theorem atomic_nilFunc  : PV.atomic (.val .nilFunc) = true := rfl
@[simp] theorem cells_nilIface  : PV.cells (.val .nilIface) = [.val .nilIface] := rfl
@[simp] theorem okCells_nilIface  : PV.okCells (.val .nilIface) = true := rfl
@[simp] theorem atomic_nilIface  : PV.atomic (.val .nilIface) = true := rfl
@[simp] theorem cells_ptr (id vl row off : Nat) : PV.cells (.ptr id vl row off) = [.ptr id vl row off] := rfl
@[simp] theorem okCells_ptr (id vl row off : Nat) : PV.okCells (.ptr id vl row off) = true := rfl
@[simp] theorem atomic_ptr (id vl row off : Nat) : PV.atomic (.ptr id vl row off) = true := rfl
@[simp] theorem cells_rptr (c : Nat) (cells : List PV) : PV.cells (.rptr c cells) = [.rptr c cells] := rfl
@[simp] theorem okCells_rptr (c : Nat) (cells : List PV) : PV.okCells (.rptr c cells) = true := rfl
@[simp] theorem atomic_rptr (c : Nat) (cells : List PV) : PV.atomic (.rptr c cells) = true := rfl
@[simp] theorem cells_slice (c sz : Nat) (rows : List (List PV)) : PV.cells (.slice c sz rows) = [.slice c sz rows] := rfl
@[simp] theorem okCells_slice (c sz : Nat) (rows : List (List PV)) : PV.okCells (.slice c sz rows) = true := rfl
@[simp] theorem atomic_slice (c sz : Nat) (rows : List (List PV)) : PV.atomic (.slice c sz rows) = true := rfl
@[simp] theorem cells_sl (c sz : Nat) (rows : List (List PV)) : PV.cells (.sl c sz rows) = [.sl c sz rows] := by cases rows <;> rfl
@[simp] theorem okCells_sl (c sz : Nat) (rows : List (List PV)) : PV.okCells (.sl c sz rows) = true := by cases rows <;> rfl
@[simp] theorem atomic_sl (c sz : Nat) (rows : List (List PV)) : PV.atomic (.sl c sz rows) = true := by cases rows <;> rfl
@[simp] theorem cells_msl (id len sz : Nat) : PV.cells (.msl id len sz) = [.msl id len sz] := rfl
@[simp] theorem okCells_msl (id len sz : Nat) : PV.okCells (.msl id len sz) = true := rfl
@[simp] theorem atomic_msl (id len sz : Nat) : PV.atomic (.msl id len sz) = true := rfl
@[simp] theorem cells_func (f : FuncId) (caps : List PV) : PV.cells (.func f caps) = [.func f caps] := rfl
@[simp] theorem okCells_func (f : FuncId) (caps : List PV) : PV.okCells (.func f caps) = true := rfl
@[simp] theorem atomic_func (f : FuncId) (caps : List PV) : PV.atomic (.func f caps) = true := rfl
@[simp] theorem cells_iface (t : TypeId) (p : PV) : PV.cells (.iface t p) = [.iface t p] := rfl
@[simp] theorem okCells_iface (t : TypeId) (p : PV) : PV.okCells (.iface t p) = true := rfl
@[simp] theorem atomic_iface (t : TypeId) (p : PV) : PV.atomic (.iface t p) = true := rfl
@[simp] theorem cells_pmap (id : Nat) : PV.cells (.map id) = [.map id] := rfl
@[simp] theorem okCells_pmap (id : Nat) : PV.okCells (.map id) = true := rfl
@[simp] theorem atomic_pmap (id : Nat) : PV.atomic (.map id) = true := rfl
@[simp] theorem cells_agg (cs : List PV) : PV.cells (.agg cs) = cs := rfl
@[simp] theorem okCells_agg (cs : List PV) : PV.okCells (.agg cs) = true := rfl
@[simp] theorem atomic_agg (cs : List PV) : PV.atomic (.agg cs) = false := rfl
theorem sl_cons (c sz : Nat) (r : List PV) (rs : List (List PV)) : PV.sl c sz (r :: rs) = .slice c sz (r :: rs) := rfl
end
set_option linter.unusedSimpArgs false
/-- A list of one's own, or nil while it is empty; its box is not below lo. -/
def OutIs (lo : Nat) (H : AS) (p : PV) (sz : Nat) (rows : List (List PV)) : Prop :=
  (rows = [] ∧ p = .nil) ∨ ∃ id, lo ≤ id ∧ id < H.next ∧ p = .msl id rows.length sz ∧ H.box id = some rows
/-- What every memory below lo holds still holds. -/
def Above (lo : Nat) (H H' : AS) : Prop := ∀ H0 : AS, H0.next ≤ lo → H0.Ext H → H0.Ext H'
theorem Above.box {lo : Nat} {H H' : AS} (h : Above lo H H') (hlo : lo ≤ H.next) {j : Nat} (hj : j < lo) : H'.box j = H.box j :=
  (h ⟨H.box, H.mp, lo, H.color⟩ (Nat.le_refl _) ⟨hlo, fun _ _ => rfl, fun _ _ => rfl, rfl⟩).box j hj
theorem Above.next {lo : Nat} {H H' : AS} (h : Above lo H H') (hlo : lo ≤ H.next) : lo ≤ H'.next :=
  (h ⟨H.box, H.mp, lo, H.color⟩ (Nat.le_refl _) ⟨hlo, fun _ _ => rfl, fun _ _ => rfl, rfl⟩).next
theorem OutIs.nil {lo : Nat} {H : AS} {sz : Nat} : OutIs lo H .nil sz [] := .inl ⟨rfl, rfl⟩
theorem Above.refl {lo : Nat} {H : AS} : Above lo H H := fun _ _ h => h
/-- What lies elsewhere than the list p stays. -/
structure Elsewhere (p p' : PV) (H H' : AS) : Prop where
  next : H.next ≤ H'.next
  color : H'.color = H.color
  box : ∀ j, j < H.next → (∀ n s, p ≠ .msl j n s) → H'.box j = H.box j
  mp : ∀ j, H'.mp j = H.mp j
  own : ∀ j n s, p' = .msl j n s → (∃ m s', p = .msl j m s') ∨ H.next ≤ j
theorem aappend_outF {P : Program} {lo : Nat} {H : AS} {p : PV} {sz : Nat} {rows : List (List PV)} (h : OutIs lo H p sz rows) (hlo : lo ≤ H.next) {sT xT elem : TypeId} {xd : TypeDesc} {zs : List PV} {by_ : Nat}
    (h1 : P.underlying sT = some (.slice elem)) (h2 : P.underlying xT = some xd) (hsz : szOf P elem = some sz) (hz : zeroOf P elem = some zs) (hb : bytesOf P elem = some by_)
    (hz1 : zs.length = sz) (hz2 : zs.all PV.atomic = true) (hby : 0 < by_) {y : PV} {ys : List (List PV)} (hy : srcOfT H sz xd y = some ys) (hfr : ∀ r ∈ ys, ∀ p ∈ r, Frozen p)
    (hsize : appFits (rows.length + ys.length) by_) {k : PV → AS → Prop} (hk : ∀ p' H', OutIs lo H' p' sz (rows ++ ys) → Above lo H H' → Elsewhere p p' H H' → k p' H') : aappend P H sT xT p y k := by
  left
  unfold aappendX fzR
  simp only [h1, h2, hsz, hz, hb, hy, frzR_id hfr, if_true]
  refine ⟨⟨hz1, hz2, hby⟩, ?_⟩
  rcases h with ⟨rfl, rfl⟩ | ⟨id, hid, hlt, rfl, hbox⟩
  · by_cases hl : ys.length = 0
    · have : ys = [] := List.length_eq_zero_iff.1 hl
      subst this
      exact hk _ _ .nil .refl ⟨Nat.le_refl _, rfl, fun _ _ _ => rfl, fun _ => rfl, fun j n s e => .inl ⟨n, s, e⟩⟩
    · simp only [hl, if_false]
      refine ⟨by simpa using hsize, hk _ _ (.inr ⟨H.next, hlo, by simp, by simp, by simp⟩) (fun H0 h0 hext => ?_) ⟨by simp, rfl, fun j hj _ => by simp [Nat.ne_of_lt hj], fun _ => rfl, fun j n s e => by cases e; exact .inr (Nat.le_refl _)⟩⟩
      exact AS.Ext.bump (AS.Ext.setBox (by omega) hext)
  · simp only [hbox]
    refine ⟨⟨trivial, trivial, hsize⟩, hk _ _ (.inr ⟨id, hid, by simpa using hlt, by simp, by simp⟩) (fun H0 h0 hext => ?_) ⟨by simp, rfl, fun j _ hj => ?_, fun _ => rfl, fun j n s e => by cases e; exact .inl ⟨_, _, rfl⟩⟩⟩
    · exact AS.Ext.setBox (by omega) hext
    · have : j ≠ id := fun e => hj _ _ (by rw [e])
      simp [this]
theorem aappend_outR {P : Program} {lo : Nat} {H : AS} {p : PV} {sz : Nat} {rows : List (List PV)} (h : OutIs lo H p sz rows) (hlo : lo ≤ H.next) {sT xT elem : TypeId} {xd : TypeDesc} {zs : List PV} {by_ : Nat}
    (h1 : P.underlying sT = some (.slice elem)) (h2 : P.underlying xT = some xd) (hsz : szOf P elem = some sz) (hz : zeroOf P elem = some zs) (hb : bytesOf P elem = some by_)
    (hz1 : zs.length = sz) (hz2 : zs.all PV.atomic = true) (hby : 0 < by_) {y : PV} {ys : List (List PV)} (hy : srcOfT H sz xd y = some ys)
    (hsize : appFits (rows.length + ys.length) by_) {k : PV → AS → Prop} (hk : ∀ p' H', OutIs lo H' p' sz (rows ++ ys) → Above lo H H' → Elsewhere p p' H H' → k p' H') : aappend P H sT xT p y k := by
  right
  unfold aappendX fzR
  simp only [h1, h2, hsz, hz, hb, hy, Bool.false_eq_true, if_false]
  refine ⟨⟨hz1, hz2, hby⟩, ?_⟩
  rcases h with ⟨rfl, rfl⟩ | ⟨id, hid, hlt, rfl, hbox⟩
  · by_cases hl : ys.length = 0
    · have : ys = [] := List.length_eq_zero_iff.1 hl
      subst this
      exact hk _ _ .nil .refl ⟨Nat.le_refl _, rfl, fun _ _ _ => rfl, fun _ => rfl, fun j n s e => .inl ⟨n, s, e⟩⟩
    · simp only [hl, if_false]
      refine ⟨by simpa using hsize, hk _ _ (.inr ⟨H.next, hlo, by simp, by simp, by simp⟩) (fun H0 h0 hext => ?_) ⟨by simp, rfl, fun j hj _ => by simp [Nat.ne_of_lt hj], fun _ => rfl, fun j n s e => by cases e; exact .inr (Nat.le_refl _)⟩⟩
      exact AS.Ext.bump (AS.Ext.setBox (by omega) hext)
  · simp only [hbox]
    refine ⟨⟨trivial, trivial, hsize⟩, hk _ _ (.inr ⟨id, hid, by simpa using hlt, by simp, by simp⟩) (fun H0 h0 hext => ?_) ⟨by simp, rfl, fun j _ hj => ?_, fun _ => rfl, fun j n s e => by cases e; exact .inl ⟨_, _, rfl⟩⟩⟩
    · exact AS.Ext.setBox (by omega) hext
    · have : j ≠ id := fun e => hj _ _ (by rw [e])
      simp [this]
theorem aappend_outT {P : Program} {lo : Nat} {H : AS} {p : PV} {sz : Nat} {rows : List (List PV)} (h : OutIs lo H p sz rows) (hlo : lo ≤ H.next) {sT xT elem : TypeId} {xd : TypeDesc} {zs : List PV} {by_ : Nat}
    (h1 : P.underlying sT = some (.slice elem)) (h2 : P.underlying xT = some xd) (hsz : szOf P elem = some sz) (hz : zeroOf P elem = some zs) (hb : bytesOf P elem = some by_)
    (hz1 : zs.length = sz) (hz2 : zs.all PV.atomic = true) (hby : 0 < by_) {y : PV} {ys : List (List PV)} (hy : srcOfT H sz xd y = some ys) (hfr : ∀ r ∈ ys, ∀ p ∈ r, Frozen p)
    (hsize : (rows.length + ys.length) * by_ ≤ 2 ^ 47) {k : PV → AS → Prop} (hk : ∀ p' H', OutIs lo H' p' sz (rows ++ ys) → Above lo H H' → Elsewhere p p' H H' → k p' H') : aappend P H sT xT p y k :=
  aappend_outF h hlo h1 h2 hsz hz hb hz1 hz2 hby hy hfr (.inl hsize) hk
theorem aappend_out {P : Program} {lo : Nat} {H : AS} {p : PV} {sz : Nat} {rows : List (List PV)} (h : OutIs lo H p sz rows) (hlo : lo ≤ H.next) {sT xT elem e2 : TypeId} {zs : List PV} {by_ : Nat}
    (h1 : P.underlying sT = some (.slice elem)) (h2 : P.underlying xT = some (.slice e2)) (hsz : szOf P elem = some sz) (hz : zeroOf P elem = some zs) (hb : bytesOf P elem = some by_)
    (hz1 : zs.length = sz) (hz2 : zs.all PV.atomic = true) (hby : 0 < by_) {y : PV} {ys : List (List PV)} (hy : srcOf H sz y = some ys) (_hne : ys ≠ []) (hfr : ∀ r ∈ ys, ∀ p ∈ r, Frozen p)
    (hsize : (rows.length + ys.length) * by_ ≤ 2 ^ 47) {k : PV → AS → Prop} (hk : ∀ p' H', OutIs lo H' p' sz (rows ++ ys) → Above lo H H' → k p' H') : aappend P H sT xT p y k :=
  aappend_outT h hlo h1 h2 hsz hz hb hz1 hz2 hby (xd := .slice e2) hy hfr hsize fun p' H' a b _ => hk p' H' a b
theorem frz_out {lo : Nat} {H : AS} {p : PV} {sz : Nat} {rows : List (List PV)} (h : OutIs lo H p sz rows) : ∃ H', frz H p = (PV.sl H.color sz rows, H') ∧ Above lo H H' := by
  rcases h with ⟨rfl, rfl⟩ | ⟨id, hid, hlt, rfl, hbox⟩
  · exact ⟨H, rfl, .refl⟩
  · refine ⟨H.kill id, by simp [frz, hbox], fun H0 h0 hext => AS.Ext.kill (by omega) hext⟩
theorem OutIs.atomic {lo : Nat} {H : AS} {p : PV} {sz : Nat} {rows : List (List PV)} (h : OutIs lo H p sz rows) : p.atomic = true := by
  rcases h with ⟨rfl, rfl⟩ | ⟨id, hid, hlt, rfl, hbox⟩ <;> rfl
theorem OutIs.okCells {lo : Nat} {H : AS} {p : PV} {sz : Nat} {rows : List (List PV)} (h : OutIs lo H p sz rows) : p.okCells = true := by
  rcases h with ⟨rfl, rfl⟩ | ⟨id, hid, hlt, rfl, hbox⟩ <;> rfl
theorem OutIs.cells {lo : Nat} {H : AS} {p : PV} {sz : Nat} {rows : List (List PV)} (h : OutIs lo H p sz rows) : p.cells = [p] := by
  rcases h with ⟨rfl, rfl⟩ | ⟨id, hid, hlt, rfl, hbox⟩ <;> rfl
/-- A list of one's own outlives what is written elsewhere. -/
theorem OutIs.keep {lo : Nat} {H H' : AS} {p : PV} {sz : Nat} {rows : List (List PV)} (h : OutIs lo H p sz rows) (hn : H.next ≤ H'.next) (hb : ∀ id, lo ≤ id → id < H.next → H'.box id = H.box id) : OutIs lo H' p sz rows := by
  rcases h with ⟨rfl, rfl⟩ | ⟨id, hid, hlt, rfl, hbox⟩
  · exact .nil
  · exact .inr ⟨id, hid, Nat.lt_of_lt_of_le hlt hn, rfl, by rw [hb id hid hlt]; exact hbox⟩
/-- One result, a list of one's own. -/
theorem owes_out {P : Program} {H : AS} {fn : Func} {p : PV} {F' : AF} {H' : AS} {e : Exit} {lo sz : Nat} {rows : List (List PV)} (he : e = .normal ∨ e = .ret) (hwf : WF H) (hr : aResults P F' H' fn.results.toList = some [p])
    (hout : OutIs lo H' p sz rows) (hlo : H.next ≤ lo) (hext : H.Ext H') (hb : ∀ r ∈ rows, ∀ p ∈ r, Below H.next p) : Owes P fn H (fun r H'' => r = PV.sl H.color sz rows ∧ H'' = H) e F' H' := by
  obtain ⟨H2, hf, hab⟩ := frz_out hout
  have hv : frzV H' p = (PV.sl H'.color sz rows, H2) := by
    rcases hout with ⟨rfl, rfl⟩ | ⟨id, hid, hlt, rfl, hbox⟩ <;> exact hf
  refine owes_pure he hwf hr ?_ ?_ ?_ <;> simp [frzVs, hv, packed]
  · exact hab H hlo hext
  · exact hb
  · rw [hext.color]
theorem frzL_append {H : AS} {ps : List PV} : ∀ {pre : List PV}, (∀ x ∈ pre, Frozen x) → frzL H (pre ++ ps) = (pre ++ (frzL H ps).1, (frzL H ps).2)
  | [], _ => rfl
  | p :: pre, h => by
    have ih := frzL_append (H := H) (ps := ps) (pre := pre) fun q hq => h q (List.mem_cons_of_mem _ hq)
    simp [frzL, frz_id (h p (by simp)), ih]
/-- One result of several cells, one of them a list of one's own. -/
theorem owes_agg_out {P : Program} {H : AS} {fn : Func} {pre post : List PV} {p : PV} {F' : AF} {H' : AS} {e : Exit} {lo sz : Nat} {rows : List (List PV)} (he : e = .normal ∨ e = .ret) (hwf : WF H) (hr : aResults P F' H' fn.results.toList = some [.agg (pre ++ p :: post)])
    (hpre : ∀ x ∈ pre, Frozen x) (hpost : ∀ x ∈ post, Frozen x) (hout : OutIs lo H' p sz rows) (hlo : H.next ≤ lo) (hext : H.Ext H') (hb : ∀ x ∈ pre ++ PV.sl H.color sz rows :: post, Below H.next x) :
    Owes P fn H (fun r H'' => r = .agg (pre ++ PV.sl H.color sz rows :: post) ∧ H'' = H) e F' H' := by
  obtain ⟨H2, hf, hab⟩ := frz_out hout
  have hv : frzL H' (pre ++ p :: post) = (pre ++ PV.sl H.color sz rows :: post, H2) := by
    rw [frzL_append hpre]; simp [frzL, hf, frzL_id hpost, hext.color]
  refine owes_pure he hwf hr ?_ ?_ ?_ <;> simp only [frzVs, frzV, hv, packed]
  · exact hab H hlo hext
  · intro x hx
    rw [List.mem_singleton] at hx
    subst hx
    simpa using hb
@[congr] theorem aappend_congr {P : Program} {H : AS} {s t : TypeId} {x x' y y' : PV} {k : PV → AS → Prop} (h : x = x') (h' : y = y') : aappend P H s t x y k = aappend P H s t x' y' k := by rw [h, h']
theorem take_map_succ {α β : Type} {xs : List α} {f : α → β} {i : Nat} (h : i < xs.length) : (xs.map f).take (i + 1) = (xs.take i).map f ++ [f xs[i]] := by
  rw [← List.map_take, List.take_succ_eq_append_getElem h, List.map_append]; rfl
set_option linter.unusedSimpArgs false
/-- What follows, kept where simp does not look. -/
class Kont (α : Sort _) where
  run : α
section
variable {α : Type}
def obind (x : Option α) [k : Kont (α → Prop)] : Prop := match x with
  | some a => k.run a
  | none => False
@[simp] theorem obind_some (a : α) (k : α → Prop) : @obind _ (some a) ⟨k⟩ = k a := _root_.id rfl
@[simp] theorem obind_none (k : α → Prop) : @obind α none ⟨k⟩ = False := _root_.id rfl
def oelse (x : Option α) [k : Kont (α → Prop)] [e : Kont Prop] : Prop := match x with
  | some a => k.run a
  | none => e.run
@[simp] theorem oelse_some (a : α) (k : α → Prop) (e : Prop) : @oelse _ (some a) ⟨k⟩ ⟨e⟩ = k a := _root_.id rfl
@[simp] theorem oelse_none (k : α → Prop) (e : Prop) : @oelse α none ⟨k⟩ ⟨e⟩ = e := _root_.id rfl
def gcond (b : Bool) [A : Kont Prop] [B : Kont Prop] : Prop := match b with
  | true => A.run
  | false => B.run
@[simp] theorem gcond_true (A B : Prop) : @gcond true ⟨A⟩ ⟨B⟩ = A := _root_.id rfl
@[simp] theorem gcond_false (A B : Prop) : @gcond false ⟨A⟩ ⟨B⟩ = B := _root_.id rfl
def strict (a : α) [k : Kont (α → Prop)] : Prop := k.run a
@[simp] theorem strict_eq (a : α) (k : α → Prop) : @strict _ a ⟨k⟩ = k a := _root_.id rfl
def boolOf (p : PV) [k : Kont (Bool → Prop)] : Prop := match p with
  | .val (.bool b) => k.run b
  | _ => False
@[simp] theorem boolOf_bool (b : Bool) (k : Bool → Prop) : @boolOf (.val (.bool b)) ⟨k⟩ = k b := _root_.id rfl
def funcOf (p : PV) [k : Kont (FuncId → List PV → Prop)] : Prop := match p with
  | .func g caps => k.run g caps
  | _ => False
/-- What a called value makes of the arguments. -/
def callOf (p : PV) [k : Kont (FuncId → (List PV → List PV) → Prop)] : Prop := match p with
  | .func g caps => k.run g fun args => args ++ caps
  | .bound g first => k.run g fun args => first ++ args
  | _ => False
@[simp] theorem callOf_func (g : FuncId) (caps : List PV) (k : FuncId → (List PV → List PV) → Prop) : @callOf (.func g caps) ⟨k⟩ = k g (fun args => args ++ caps) := _root_.id rfl
@[simp] theorem callOf_bound (g : FuncId) (first : List PV) (k : FuncId → (List PV → List PV) → Prop) : @callOf (.bound g first) ⟨k⟩ = k g (fun args => first ++ args) := _root_.id rfl
@[simp] theorem funcOf_func (g : FuncId) (caps : List PV) (k : FuncId → List PV → Prop) : @funcOf (.func g caps) ⟨k⟩ = k g caps := _root_.id rfl
/-- What follows a float's reckoning; else. -/
def floatK (o : Option FloatKind) [k : Kont (Value → Prop)] [e : Kont Prop] : Prop := floatElse o k.run e.run
@[simp] theorem floatK_none (k : Value → Prop) (e : Prop) : @floatK none ⟨k⟩ ⟨e⟩ = e := _root_.id rfl
@[simp] theorem floatK_some (kd : FloatKind) (k : Value → Prop) (e : Prop) : @floatK (some kd) ⟨k⟩ ⟨e⟩ = ∀ r, k (.float kd r) := _root_.id rfl
attribute [simp] aFloatOp
/-- What follows a test against nil. -/
def nilK (op : BinOp) (bs : List Bool) (y : Operand) [k : Kont (Bool → Prop)] : Prop := nilElse op bs y k.run
@[simp] theorem nilK_eql1 (b : Bool) (v : Value) (k : Bool → Prop) : @nilK .eql [b] (.const v) ⟨k⟩ = k b := by simp [nilK, nilElse]
@[simp] theorem nilK_neq1 (b : Bool) (v : Value) (k : Bool → Prop) : @nilK .neq [b] (.const v) ⟨k⟩ = k (!b) := by simp [nilK, nilElse]
@[simp] theorem nilK_eql2 (v : Value) (k : Bool → Prop) : @nilK .eql [true, false] (.const v) ⟨k⟩ = (k true ∧ k false) := by simp [nilK, nilElse, and_comm]
@[simp] theorem nilK_neq2 (v : Value) (k : Bool → Prop) : @nilK .neq [true, false] (.const v) ⟨k⟩ = (k false ∧ k true) := by simp [nilK, nilElse, and_comm]
/-- A call, and what follows. -/
def callK (P : Program) (f : FuncId) (args : List PV) (H : AS) [k : Kont (PV → AS → Prop)] : Prop := ACalls P f args H k.run
theorem callK.of {P : Program} {f : FuncId} {args : List PV} {H : AS} {k k0 : PV → AS → Prop} (h : ACalls P f args H k0) (hk : ∀ q H', k0 q H' → k q H') : @callK P f args H ⟨k⟩ := h.mono hk
def eitherK (x y : Option (PV × AS)) [k : Kont (PV → AS → Prop)] : Prop := eitherOf x y k.run
@[simp] theorem eitherK_same (x : Option (PV × AS)) (k : PV → AS → Prop) : @eitherK x x ⟨k⟩ = @obind _ x ⟨fun r => k r.1 r.2⟩ := by
  unfold eitherK eitherOf obind
  cases x with
  | none => simp
  | some r => exact propext ⟨fun ⟨q, H', e, h⟩ => by rcases e with e | e <;> (cases e; exact h), fun h => ⟨r.1, r.2, .inl rfl, h⟩⟩
attribute [simp] abuildRaw
theorem eitherK.fz {q : PV} {H' : AS} {y : Option (PV × AS)} {k : PV → AS → Prop} (h : k q H') : @eitherK (some (q, H')) y ⟨k⟩ := ⟨q, H', .inl rfl, h⟩
theorem eitherK.raw {q : PV} {H' : AS} {x : Option (PV × AS)} {k : PV → AS → Prop} (h : k q H') : @eitherK x (some (q, H')) ⟨k⟩ := ⟨q, H', .inr rfl, h⟩
def appendK (P : Program) (H : AS) (s t : TypeId) (x y : PV) [k : Kont (PV → AS → Prop)] : Prop := aappend P H s t x y k.run
theorem appendK.of {P : Program} {H : AS} {s t : TypeId} {x y : PV} {k : PV → AS → Prop} (h : aappend P H s t x y k) : @appendK P H s t x y ⟨k⟩ := h
theorem appendK_eq {P : Program} {H : AS} {s t : TypeId} {x y : PV} {k : PV → AS → Prop} : @appendK P H s t x y ⟨k⟩ = aappend P H s t x y k := _root_.id rfl
def askK (P : Program) (L : Nat → Prop) (H : AS) (g : FuncId) (args : List PV) [X : Kont (PV → Prop)] : Prop := Ask P L H g args X.run
theorem askK.of {P : Program} {L : Nat → Prop} {H : AS} {g : FuncId} {args : List PV} {X : PV → Prop} (q : AS → PV) (hq : ∀ H', Same L H H' → q H' = q H) (hc : ∀ H', Same L H H' → ACalls P g args H' fun r H'' => r = q H' ∧ H'' = H') (hX : X (q H)) : @askK P L H g args ⟨X⟩ := Ask.of q hq hc hX
end
section
variable {P : Program} {F : AF} {H : AS} {k : PV → AS → Prop} {d : Option Tmp} {ty : TypeId} {pos : String} {af : Array Edge} {g : Option (Nat × Bool)}
theorem ex_pure {o : Oper} {x : Option PV} (h : aPure P F o = x) (hk : match o.op with
  | .move _ | .assign _ | .pick .. | .build .. | .nilCheck _ | .unOp .. | .makeInterface .. | .makeFunc .. | .slice .. | .fieldAddr .. | .field .. | .indexAddr .. | .index .. | .extract .. | .sliceToArrayPointer .. => True
  | .call { callee := .builtin .len, .. } => True
  | .call { callee := .builtin .min, .. } => True
  | _ => False) : aOp P F H o k = @obind _ x ⟨fun q => k q H⟩ := by
  obtain ⟨dst, op, t, po, aft, gu⟩ := o
  subst h
  cases op <;> first | exact hk.elim | skip
  all_goals try (unfold aOp obind; dsimp only; split <;> rename_i e <;> rw [e])
  rename_i c
  obtain ⟨callee, args, tys⟩ := c
  cases callee <;> first | exact hk.elim | skip
  rename_i b
  cases b <;> first | exact hk.elim | skip
  all_goals (unfold aOp obind; dsimp only; split <;> rename_i e <;> rw [e])
theorem ex_move (x : Operand) : aOp P F H ⟨d, .move x, ty, pos, af, g⟩ k = @strict _ (F.ev x) ⟨fun q => k q H⟩ := _root_.id rfl
theorem ex_assign (x : Operand) : aOp P F H ⟨d, .assign x, ty, pos, af, g⟩ k = @strict _ (F.ev x) ⟨fun q => k q H⟩ := _root_.id rfl
theorem ex_pick (c a b : Operand) : aOp P F H ⟨d, .pick c a b, ty, pos, af, g⟩ k = @boolOf (F.ev c) ⟨fun t => @strict _ (PV.sel t (F.ev a) (F.ev b)) ⟨fun q => k q H⟩⟩ := by
  rw [ex_pure rfl trivial]; simp only [aPure]; unfold boolOf strict; split <;> simp_all
theorem ex_build (t : TypeId) (ps : Array (Nat × Operand)) : aOp P F H ⟨d, .build t ps, ty, pos, af, g⟩ k = @obind _ (aBuild P t (ps.toList.map fun x => (x.1, F.ev x.2))) ⟨fun q => k q H⟩ := id (ex_pure rfl trivial)
theorem ex_nilCheck (x : Operand) : aOp P F H ⟨d, .nilCheck x, ty, pos, af, g⟩ k = @obind _ (match F.ev x with
    | .ptr id vl row off => some (.ptr id vl row off)
    | .rptr c cells => some (.rptr c cells)
    | .func f caps => some (.func f caps)
    | .iface t p => some (.iface t p)
    | _ => none) ⟨fun q => k q H⟩ := id (ex_pure rfl trivial)
theorem ex_unOp (op : UnOp) (t : TypeId) (x : Operand) : aOp P F H ⟨d, .unOp op t x, ty, pos, af, g⟩ k = @obind _ (aUn op (F.ev x)) ⟨fun q => k q H⟩ := id (ex_pure rfl trivial)
theorem ex_convert (s t : TypeId) (x : Operand) : aOp P F H ⟨d, .convert s t x, ty, pos, af, g⟩ k = @oelse _ (aConvert P s t (F.ev x)) ⟨fun q => k q H⟩ ⟨@oelse _ (aToString P s t (F.ev x)) ⟨fun q => k q H⟩ ⟨@oelse _ (aToStringM P H s t (F.ev x)) ⟨fun q => k q H⟩ ⟨@obind _ (aToBytes P H s t (F.ev x)) ⟨fun r => k r.1 r.2⟩⟩⟩⟩ := by
  unfold aOp oelse obind
  simp only [aPure]
  cases e : aConvert P s t (F.ev x) <;> rfl
theorem ex_sliceToArrayPointer (t : TypeId) (x : Operand) : aOp P F H ⟨d, .sliceToArrayPointer t x, ty, pos, af, g⟩ k = @obind _ (aArrayAt P t (F.ev x)) ⟨fun q => k q H⟩ := id (ex_pure rfl trivial)
theorem ex_min (x y : Operand) (ts : Array TypeId) : aOp P F H ⟨d, .call ⟨.builtin .min, #[x, y], ts⟩, ty, pos, af, g⟩ k = @obind _ (amin (F.ev x) (F.ev y)) ⟨fun q => k q H⟩ := id (ex_pure rfl trivial)
theorem ex_makeSlice (t : TypeId) (x y : Operand) : aOp P F H ⟨d, .makeSlice t x y, ty, pos, af, g⟩ k = @obind _ (amakeS P H t (F.ev x) (F.ev y)) ⟨fun r => k r.1 r.2⟩ := by
  unfold aOp obind; dsimp only; cases e : amakeS P H t (F.ev x) (F.ev y) <;> rfl
theorem ex_makeMap (t : TypeId) : aOp P F H ⟨d, .makeMap t none, ty, pos, af, g⟩ k = @obind _ (amakeMap P H t) ⟨fun r => k r.1 r.2⟩ := by
  unfold aOp obind; dsimp only; cases e : amakeMap P H t <;> rfl
theorem ex_lookup (t : TypeId) (m x : Operand) (ok : Bool) : aOp P F H ⟨d, .lookup t m x ok, ty, pos, af, g⟩ k = @obind _ (aLookup P H t (F.ev m) (F.ev x) ok) ⟨fun q => k q H⟩ := by
  unfold aOp obind; dsimp only; cases e : aLookup P H t (F.ev m) (F.ev x) ok <;> rfl
theorem ex_mapUpdate (t : TypeId) (m x y : Operand) : aOp P F H ⟨d, .mapUpdate t m x y, ty, pos, af, g⟩ k = @obind _ (aMapUpdate P H t (F.ev m) (F.ev x) (F.ev y)) ⟨fun H' => k (.val undef) H'⟩ := by
  unfold aOp obind; dsimp only; cases e : aMapUpdate P H t (F.ev m) (F.ev x) (F.ev y) <;> rfl
theorem ex_makeInterface (t : TypeId) (x : Operand) : aOp P F H ⟨d, .makeInterface t x, ty, pos, af, g⟩ k = @obind _ (match P.underlying t with
    | some (.interface _) => none
    | some _ => some (.iface t (F.ev x))
    | none => none) ⟨fun q => k q H⟩ := id (ex_pure rfl trivial)
theorem ex_makeFunc (f : FuncId) (first caps : Array Operand) : aOp P F H ⟨d, .makeFunc (.func f) first caps, ty, pos, af, g⟩ k = @obind _ (if first.size = 0 then some (.func f (caps.toList.map F.ev)) else if caps.size = 0 then some (.bound f (first.toList.map F.ev)) else none) ⟨fun q => k q H⟩ := id (ex_pure rfl trivial)
theorem ex_slice (t : TypeId) (x : Operand) (lo hi : Option Operand) : aOp P F H ⟨d, .slice t x lo hi none, ty, pos, af, g⟩ k = @obind _ (aCutOp P t (F.ev x) (lo.map F.ev) (hi.map F.ev)) ⟨fun q => k q H⟩ := id (ex_pure rfl trivial)
theorem ex_fieldAddr (t : TypeId) (x : Operand) (i : Nat) : aOp P F H ⟨d, .fieldAddr t x i, ty, pos, af, g⟩ k = @obind _ (aFieldAddr P t (F.ev x) i) ⟨fun q => k q H⟩ := id (ex_pure rfl trivial)
theorem ex_field (t : TypeId) (x : Operand) (i : Nat) : aOp P F H ⟨d, .field t x i, ty, pos, af, g⟩ k = @obind _ (aField P t (F.ev x) i) ⟨fun q => k q H⟩ := id (ex_pure rfl trivial)
theorem ex_indexAddr (t : TypeId) (x i : Operand) : aOp P F H ⟨d, .indexAddr t x i, ty, pos, af, g⟩ k = @obind _ (aIndexAddr P t (F.ev x) (F.ev i)) ⟨fun q => k q H⟩ := id (ex_pure rfl trivial)
theorem ex_index (t : TypeId) (x i : Operand) : aOp P F H ⟨d, .index t x i, ty, pos, af, g⟩ k = @obind _ (aIndex P t (F.ev x) (F.ev i)) ⟨fun q => k q H⟩ := id (ex_pure rfl trivial)
theorem ex_extract (x : Operand) (i : Nat) : aOp P F H ⟨d, .extract x i, ty, pos, af, g⟩ k = @obind _ (aExtract (F.ev x) i) ⟨fun q => k q H⟩ := id (ex_pure rfl trivial)
theorem ex_len (x : Operand) (t : TypeId) : aOp P F H ⟨d, .call ⟨.builtin .len, #[x], #[t]⟩, ty, pos, af, g⟩ k = @obind _ (aLen P t (F.ev x)) ⟨fun q => k q H⟩ := id (ex_pure rfl trivial)
theorem ex_binOp (op : BinOp) (t : TypeId) (x y : Operand) (yt : TypeId) : aOp P F H ⟨d, .binOp op t x y yt, ty, pos, af, g⟩ k = @oelse _ (aBin P op t (F.ev x) (F.ev y)) ⟨fun q => k q H⟩ ⟨@floatK (aFloatOp op (F.ev x) (F.ev y)) ⟨fun v => k (.val v) H⟩ ⟨@nilK op (aNilTest P t (F.ev x) (F.ev y)) y ⟨fun r => k (.val (.bool r)) H⟩⟩⟩ := by
  unfold aOp oelse
  simp only [aPure]
  cases e : aBin P op t (F.ev x) (F.ev y) <;> rfl
theorem ex_alloc (t : TypeId) : aOp P F H ⟨d, .alloc t, ty, pos, af, g⟩ k = @obind _ (aalloc P H t) ⟨fun r => k r.1 r.2⟩ := by
  unfold aOp obind; dsimp only; cases e : aalloc P H t <;> rfl
theorem ex_box (t : TypeId) (x : Operand) : aOp P F H ⟨d, .box t x, ty, pos, af, g⟩ k = @obind _ (abox H (F.ev x)) ⟨fun r => k r.1 r.2⟩ := by
  unfold aOp obind; dsimp only; cases e : abox H (F.ev x) <;> rfl
theorem ex_buildSlice (t : TypeId) (l : Nat) (ps : Array (Nat × Operand)) : aOp P F H ⟨d, .buildSlice t l ps, ty, pos, af, g⟩ k = @eitherK (abuildSlice P H t l (ps.toList.map fun x => (x.1, F.ev x.2))) (abuildRaw P H t l (ps.toList.map fun x => (x.1, F.ev x.2))) ⟨k⟩ := _root_.id rfl
theorem ex_load (t : TypeId) (a : Operand) : aOp P F H ⟨d, .load t a, ty, pos, af, g⟩ k = @obind _ (aload P H t (F.ev a)) ⟨fun q => k q H⟩ := by
  unfold aOp obind; dsimp only; cases e : aload P H t (F.ev a) <;> rfl
theorem ex_store (t : TypeId) (a x : Operand) : aOp P F H ⟨d, .store t a x, ty, pos, af, g⟩ k = @obind _ (astore P H t (F.ev a) (F.ev x)) ⟨fun H' => k (.val undef) H'⟩ := by
  unfold aOp obind; dsimp only; cases e : astore P H t (F.ev a) (F.ev x) <;> rfl
theorem ex_call (f : Operand) (args : Array Operand) (tys : Array TypeId) : aOp P F H ⟨d, .call ⟨.value f, args, tys⟩, ty, pos, af, g⟩ k = @callOf (F.ev f) ⟨fun h mk => @callK P h (mk (args.toList.map F.ev)) H ⟨k⟩⟩ := by
  unfold aOp callOf; dsimp only; cases e : F.ev f <;> rfl
theorem ex_append (x y : Operand) (s t : TypeId) : aOp P F H ⟨d, .call ⟨.builtin .append, #[x, y], #[s, t]⟩, ty, pos, af, g⟩ k = @appendK P H s t (F.ev x) (F.ev y) ⟨k⟩ := _root_.id rfl
variable {ops : Array Oper} {rest : List Oper} {K : AF → AS → Prop}
theorem ex_nil : aList P ops [] F H K = K F H := _root_.id rfl
theorem ex_cons {op : Op} : aList P ops (⟨d, op, ty, pos, af, none⟩ :: rest) F H K = aOp P F H ⟨d, op, ty, pos, af, none⟩ fun q H' => aList P ops rest (F.put d q) H' K := _root_.id rfl
/-- What follows a guard. -/
def guardK (p : PV) (want : Bool) [A : Kont Prop] [B : Kont Prop] : Prop := match guardOf p with
  | some (some b) => @gcond (b == want) A B
  | some none => B.run
  | none => False
@[simp] theorem guardK_bool (b want : Bool) (A B : Prop) : @guardK (.val (.bool b)) want ⟨A⟩ ⟨B⟩ = @gcond (b == want) ⟨A⟩ ⟨B⟩ := _root_.id rfl
@[simp] theorem guardK_undef (want : Bool) (A B : Prop) : @guardK (.val undef) want ⟨A⟩ ⟨B⟩ = B := _root_.id rfl
theorem ex_guard {op : Op} (j : Nat) (want : Bool) : aList P ops (⟨d, op, ty, pos, af, some (j, want)⟩ :: rest) F H K = @obind _ ((ops[j]?).bind (·.dst)) ⟨fun t => @guardK (F t) want ⟨aList P ops (⟨d, op, ty, pos, af, none⟩ :: rest) F H K⟩ ⟨aList P ops rest (F.put d (.val undef)) H K⟩⟩ := by
  simp only [aList]
  cases e : (ops[j]?).bind (·.dst) with
  | none => rfl
  | some t =>
    simp only [obind_some]
    have this : ∀ k, aOp P F H ⟨d, op, ty, pos, af, some (j, want)⟩ k = aOp P F H ⟨d, op, ty, pos, af, none⟩ k := fun k => by
      unfold aOp aPure; rfl
    rw [this]
    unfold guardK
    cases h : guardOf (F t) with
    | none => rfl
    | some o =>
      cases o with
      | none => rfl
      | some b => cases b <;> cases want <;> simp [aList]
variable {L : Nat → Prop} {late : List Nat}
def wkF (P : Program) (ops : Array Oper) (L : Nat → Prop) (late : List Nat) (o : Oper) (c : Ord) (F : AF) (H : AS) (K : AF → AS → Prop) : Prop :=
  match aPure P F o with
          | some q => aWalk P ops L late c (F.put o.dst q) H K
          | none => match o.op with
            | .load t a => match F.ev a with
              | .rptr _ cells => match partOf P t cells 0 with
                | some q => aWalk P ops L late c (F.put o.dst q) H K
                | none => False
              | .ptr id vl row off => match aload P H t (.ptr id vl row off) with
                | some q => L id ∧ aWalk P ops L late c (F.put o.dst q) H K
                | none => False
              | _ => False
            | .call { callee := .value f, args, .. } => match F.ev f with
              | .func g caps => Ask P L H g (args.toList.map F.ev ++ caps) fun q => aWalk P ops L late c (F.put o.dst q) H K
              | _ => False
            | .binOp op t x y _ => match op, aNilTest P t (F.ev x) (F.ev y) with
              | .eql, [b] => (y matches .const _) = true ∧ aWalk P ops L late c (F.put o.dst (.val (.bool b))) H K
              | .neq, [b] => (y matches .const _) = true ∧ aWalk P ops L late c (F.put o.dst (.val (.bool (!b)))) H K
              | _, _ => False
            | _ => False
theorem wk_done : aWalk P ops L late .done F H K = K F H := _root_.id rfl
theorem wk_free (i : Nat) (c : Ord) : aWalk P ops L late (.free i c) F H K = @obind _ ops[i]? ⟨fun o => @obind _ (aWanted ops F o) ⟨fun b => @gcond b ⟨wkF P ops L late o c F H K⟩ ⟨aWalk P ops L late c (F.put o.dst (.val undef)) H K⟩⟩⟩ := by
  simp only [aWalk]
  cases e : ops[i]? with
  | none => rfl
  | some o =>
    simp only [obind_some]
    cases e2 : aWanted ops F o with
    | none => rfl
    | some b => cases b <;> rfl
theorem aStep_eq (i : Nat) (k : AF → AS → Prop) : aStep P ops i F H k = @oelse _ ops[i]? ⟨fun o => @obind _ (aWanted ops F o) ⟨fun b => @gcond b ⟨aOp P F H o fun q H' => k (F.put o.dst q) H'⟩ ⟨k (F.put o.dst (.val undef)) H⟩⟩⟩ ⟨k F H⟩ := by
  unfold aStep
  cases e : ops[i]? with
  | none => rfl
  | some o =>
    simp only [oelse_some]
    cases e2 : aWanted ops F o with
    | none => rfl
    | some b => cases b <;> rfl
theorem wk_sole (i : Nat) (c : Ord) : aWalk P ops L late (.sole i c) F H K = @oelse _ ops[i]? ⟨fun o => @obind _ (aWanted ops F o) ⟨fun b => @gcond b ⟨aOp P F H o fun q H' => Keeps L late i H H' ∧ aWalk P ops L late c (F.put o.dst q) H' K⟩ ⟨Keeps L late i H H ∧ aWalk P ops L late c (F.put o.dst (.val undef)) H K⟩⟩⟩ ⟨Keeps L late i H H ∧ aWalk P ops L late c F H K⟩ := by
  simp only [aWalk, aStep_eq]
theorem wk_two (i j : Nat) (c e : Ord) : aWalk P ops L late (.two i j c e) F H K = (aStep P ops i F H (fun F' H' => Keeps L late i H H' ∧ aWalk P ops L late c F' H' K) ∧ aStep P ops j F H (fun F' H' => Keeps L late j H H' ∧ aWalk P ops L late e F' H' K)) := _root_.id rfl
theorem wanted_none {op : Op} : aWanted ops F ⟨d, op, ty, pos, af, none⟩ = some true := _root_.id rfl
def wantOf (p : PV) (want : Bool) : Option Bool := match guardOf p with
  | some (some b) => some (b == want)
  | some none => some false
  | none => none
@[simp] theorem wantOf_bool (b want : Bool) : wantOf (.val (.bool b)) want = some (b == want) := rfl
@[simp] theorem wantOf_undef (want : Bool) : wantOf (.val undef) want = some false := rfl
theorem wanted_some {op : Op} (j : Nat) (want : Bool) : aWanted ops F ⟨d, op, ty, pos, af, some (j, want)⟩ = ((ops[j]?).bind (·.dst)).bind fun t => wantOf (F t) want := by
  unfold aWanted wantOf; dsimp only; cases e : (ops[j]?).bind (·.dst) <;> rfl
theorem wk_pure {o : Oper} {c : Ord} {x : Option PV} (h : aPure P F o = x) (hk : match o.op with | .load .. | .binOp .. | .call { callee := .value _, .. } => False | _ => True) : wkF P ops L late o c F H K = @obind _ x ⟨fun q => aWalk P ops L late c (F.put o.dst q) H K⟩ := by
  obtain ⟨dst, op, t, po, aft, gu⟩ := o
  subst h
  unfold wkF obind
  cases e : aPure P F ⟨dst, op, t, po, aft, gu⟩ with
  | some q => rfl
  | none =>
    cases op <;> first | rfl | exact hk.elim | skip
    rename_i c
    obtain ⟨callee, args, tys⟩ := c
    cases callee <;> first | rfl | exact hk.elim
theorem wk_move (x : Operand) (c : Ord) : wkF P ops L late ⟨d, .move x, ty, pos, af, g⟩ c F H K = @strict _ (F.ev x) ⟨fun q => aWalk P ops L late c (F.put d q) H K⟩ := _root_.id rfl
theorem wk_assign (x : Operand) (c : Ord) : wkF P ops L late ⟨d, .assign x, ty, pos, af, g⟩ c F H K = @strict _ (F.ev x) ⟨fun q => aWalk P ops L late c (F.put d q) H K⟩ := _root_.id rfl
theorem wk_pick (t a b : Operand) (c : Ord) : wkF P ops L late ⟨d, .pick t a b, ty, pos, af, g⟩ c F H K = @boolOf (F.ev t) ⟨fun t => @strict _ (PV.sel t (F.ev a) (F.ev b)) ⟨fun q => aWalk P ops L late c (F.put d q) H K⟩⟩ := by
  rw [wk_pure rfl trivial]; simp only [aPure]; unfold boolOf strict; split <;> simp_all
theorem wk_build (t : TypeId) (ps : Array (Nat × Operand)) (c : Ord) : wkF P ops L late ⟨d, .build t ps, ty, pos, af, g⟩ c F H K = @obind _ (aBuild P t (ps.toList.map fun x => (x.1, F.ev x.2))) ⟨fun q => aWalk P ops L late c (F.put d q) H K⟩ := wk_pure rfl trivial
theorem wk_nilCheck (x : Operand) (c : Ord) : wkF P ops L late ⟨d, .nilCheck x, ty, pos, af, g⟩ c F H K = @obind _ (match F.ev x with
    | .ptr id vl row off => some (.ptr id vl row off)
    | .rptr c cells => some (.rptr c cells)
    | .func f caps => some (.func f caps)
    | .iface t p => some (.iface t p)
    | _ => none) ⟨fun q => aWalk P ops L late c (F.put d q) H K⟩ := wk_pure rfl trivial
theorem wk_unOp (op : UnOp) (t : TypeId) (x : Operand) (c : Ord) : wkF P ops L late ⟨d, .unOp op t x, ty, pos, af, g⟩ c F H K = @obind _ (aUn op (F.ev x)) ⟨fun q => aWalk P ops L late c (F.put d q) H K⟩ := wk_pure rfl trivial
theorem wk_convert (s t : TypeId) (x : Operand) (c : Ord) : wkF P ops L late ⟨d, .convert s t x, ty, pos, af, g⟩ c F H K = @obind _ (aConvert P s t (F.ev x)) ⟨fun q => aWalk P ops L late c (F.put d q) H K⟩ := wk_pure rfl trivial
theorem wk_makeInterface (t : TypeId) (x : Operand) (c : Ord) : wkF P ops L late ⟨d, .makeInterface t x, ty, pos, af, g⟩ c F H K = @obind _ (match P.underlying t with
    | some (.interface _) => none
    | some _ => some (.iface t (F.ev x))
    | none => none) ⟨fun q => aWalk P ops L late c (F.put d q) H K⟩ := wk_pure rfl trivial
theorem wk_slice (t : TypeId) (x : Operand) (lo hi : Option Operand) (c : Ord) : wkF P ops L late ⟨d, .slice t x lo hi none, ty, pos, af, g⟩ c F H K = @obind _ (aCutOp P t (F.ev x) (lo.map F.ev) (hi.map F.ev)) ⟨fun q => aWalk P ops L late c (F.put d q) H K⟩ := wk_pure rfl trivial
theorem wk_fieldAddr (t : TypeId) (x : Operand) (i : Nat) (c : Ord) : wkF P ops L late ⟨d, .fieldAddr t x i, ty, pos, af, g⟩ c F H K = @obind _ (aFieldAddr P t (F.ev x) i) ⟨fun q => aWalk P ops L late c (F.put d q) H K⟩ := wk_pure rfl trivial
theorem wk_field (t : TypeId) (x : Operand) (i : Nat) (c : Ord) : wkF P ops L late ⟨d, .field t x i, ty, pos, af, g⟩ c F H K = @obind _ (aField P t (F.ev x) i) ⟨fun q => aWalk P ops L late c (F.put d q) H K⟩ := wk_pure rfl trivial
theorem wk_indexAddr (t : TypeId) (x i : Operand) (c : Ord) : wkF P ops L late ⟨d, .indexAddr t x i, ty, pos, af, g⟩ c F H K = @obind _ (aIndexAddr P t (F.ev x) (F.ev i)) ⟨fun q => aWalk P ops L late c (F.put d q) H K⟩ := wk_pure rfl trivial
theorem wk_index (t : TypeId) (x i : Operand) (c : Ord) : wkF P ops L late ⟨d, .index t x i, ty, pos, af, g⟩ c F H K = @obind _ (aIndex P t (F.ev x) (F.ev i)) ⟨fun q => aWalk P ops L late c (F.put d q) H K⟩ := wk_pure rfl trivial
theorem wk_extract (x : Operand) (i : Nat) (c : Ord) : wkF P ops L late ⟨d, .extract x i, ty, pos, af, g⟩ c F H K = @obind _ (aExtract (F.ev x) i) ⟨fun q => aWalk P ops L late c (F.put d q) H K⟩ := wk_pure rfl trivial
theorem wk_sliceToArrayPointer (t : TypeId) (x : Operand) (c : Ord) : wkF P ops L late ⟨d, .sliceToArrayPointer t x, ty, pos, af, g⟩ c F H K = @obind _ (aArrayAt P t (F.ev x)) ⟨fun q => aWalk P ops L late c (F.put d q) H K⟩ := wk_pure rfl trivial
theorem wk_min (x y : Operand) (ts : Array TypeId) (c : Ord) : wkF P ops L late ⟨d, .call ⟨.builtin .min, #[x, y], ts⟩, ty, pos, af, g⟩ c F H K = @obind _ (amin (F.ev x) (F.ev y)) ⟨fun q => aWalk P ops L late c (F.put d q) H K⟩ := wk_pure rfl trivial
theorem wk_len (x : Operand) (t : TypeId) (c : Ord) : wkF P ops L late ⟨d, .call ⟨.builtin .len, #[x], #[t]⟩, ty, pos, af, g⟩ c F H K = @obind _ (aLen P t (F.ev x)) ⟨fun q => aWalk P ops L late c (F.put d q) H K⟩ := wk_pure rfl trivial
/-- A load whose place others leave alone. -/
def loadK (P : Program) (L : Nat → Prop) (H : AS) (t : TypeId) (p : PV) [k : Kont (PV → Prop)] : Prop := match p with
  | .rptr _ cells => obind (partOf P t cells 0)
  | .ptr id vl row off => L id ∧ obind (aload P H t (.ptr id vl row off))
  | _ => False
@[simp] theorem loadK_rptr (t : TypeId) (c : Nat) (cells : List PV) (k : PV → Prop) : @loadK P L H t (.rptr c cells) ⟨k⟩ = @obind _ (partOf P t cells 0) ⟨k⟩ := _root_.id rfl
@[simp] theorem loadK_ptr (t : TypeId) (id vl row off : Nat) (k : PV → Prop) : @loadK P L H t (.ptr id vl row off) ⟨k⟩ = (L id ∧ @obind _ (aload P H t (.ptr id vl row off)) ⟨k⟩) := _root_.id rfl
theorem wk_load (t : TypeId) (a : Operand) (c : Ord) : wkF P ops L late ⟨d, .load t a, ty, pos, af, g⟩ c F H K = @loadK P L H t (F.ev a) ⟨fun q => aWalk P ops L late c (F.put d q) H K⟩ := by
  unfold wkF loadK
  simp only [aPure]
  cases e : F.ev a <;> simp only []
  · rename_i id vl row off
    cases e2 : aload P H t (.ptr id vl row off) <;> simp
  · rename_i cc cells
    cases e2 : partOf P t cells 0 <;> simp
theorem wk_call (f : Operand) (args : Array Operand) (tys : Array TypeId) (c : Ord) : wkF P ops L late ⟨d, .call ⟨.value f, args, tys⟩, ty, pos, af, g⟩ c F H K = @funcOf (F.ev f) ⟨fun h caps => @askK P L H h (args.toList.map F.ev ++ caps) ⟨fun q => aWalk P ops L late c (F.put d q) H K⟩⟩ := by
  unfold wkF funcOf; simp only [aPure]; cases F.ev f <;> rfl
theorem wk_binOp (op : BinOp) (t : TypeId) (x y : Operand) (yt : TypeId) (c : Ord) : wkF P ops L late ⟨d, .binOp op t x y yt, ty, pos, af, g⟩ c F H K = @oelse _ (aBin P op t (F.ev x) (F.ev y)) ⟨fun q => aWalk P ops L late c (F.put d q) H K⟩ ⟨match op, aNilTest P t (F.ev x) (F.ev y) with
      | .eql, [b] => (y matches .const _) = true ∧ aWalk P ops L late c (F.put d (.val (.bool b))) H K
      | .neq, [b] => (y matches .const _) = true ∧ aWalk P ops L late c (F.put d (.val (.bool (!b)))) H K
      | _, _ => False⟩ := by
  unfold wkF oelse
  simp only [aPure]
  cases e : aBin P op t (F.ev x) (F.ev y) <;> rfl
theorem T_regionL {n b id : Nat} {Q : Exit → AF → AS → Prop} {l : List Oper} (hok : regionOk n l.toArray = true) (h : aList P l.toArray l F H (Q .normal)) : T P n b (.region id l.toArray false) F H Q := T_region hok h
theorem put_at (F : AF) (e t : Nat) (p : PV) : (F.put (some e) p) t = if t = e then p else F t := _root_.id rfl
end
set_option linter.unusedSimpArgs false
/-- The ghost at a call's start: all that is there may be read, and stays. -/
def Gh.start (W : World) (c : Nat) : Gh := ⟨fun _ _ => none, fun _ => none, fun b => (W.heap[b]?).map fun o => (c, o), 0, W, fun _ => none⟩
def AS.start (c : Nat) : AS := ⟨fun _ => none, fun _ => none, 0, c⟩
theorem rel_start (W : World) (c d : Nat) (hamb : ambient W) (hc2 : c < 2 := by decide) : Rel (Gh.start W c) (AS.start d) W := by
  refine ⟨rfl, ?_, ?_, ?_, ?_, ?_, ?_, ?_, ?_, rfl, rfl, rfl, ⟨hamb, fun b o e => ⟨c, by simp [Gh.start] at e ⊢; exact e⟩⟩, ⟨fun b c' x e h2 => by simp [Gh.start] at e; omega, fun b x e => by cases e⟩⟩
  · intro b c' o h
    simp [Gh.start] at h
    exact h.1
  all_goals simp [Gh.start, AS.start]
theorem below_of_rel {W w' : World} {c : Nat} {G' : Gh} {H' : AS} (hle : (Gh.start W c).le G') (hr : Rel G' H' w') : RowKit.Below W.heap.size W w' := by
  have hb : ∀ k, k < W.heap.size → w'.heap[k]? = W.heap[k]? := fun k hk => by
    have e : (Gh.start W c).ro k = some (c, W.heap[k]) := by simp [Gh.start, hk]
    rw [hr.ro k c _ (hle.ro _ _ e)]; simp [hk]
  refine ⟨?_, ?_, ?_, ?_, hb⟩
  · rw [hr.os, hle.w0]; rfl
  · rw [hr.tape, hle.w0]; rfl
  · rw [hr.out, hle.w0]; rfl
  · rcases Nat.lt_or_ge w'.heap.size W.heap.size with h | h
    · have := hb w'.heap.size h
      rw [Array.getElem?_eq_none (Nat.le_refl _)] at this
      simp [h] at this
    · exact h
/-- Cells that a row stands for. -/
def RepRow (G : Gh) (l : List PV) (cs : List Value) : Prop :=
  l.length = cs.length ∧ (∀ (j : Nat) (p : PV) (v : Value), l[j]? = some p → cs[j]? = some v → Rep G p v) ∧ ∀ (j : Nat) (v : Value), cs[j]? = some v → v.oneCell' = true
theorem RepRow.nil {G : Gh} : RepRow G [] [] := ⟨rfl, fun j p v h => by simp at h, fun j v h => by simp at h⟩
theorem RepRow.one {G : Gh} {p : PV} {v : Value} (h : Rep G p v) (ho : v.oneCell' = true) : RepRow G [p] [v] :=
  ⟨rfl, fun j q u hq hu => by cases j <;> simp at hq hu; subst hq; subst hu; exact h, fun j u hu => by cases j <;> simp at hu; subst hu; exact ho⟩
theorem RepRow.append {G : Gh} {l l' : List PV} {cs cs' : List Value} (h : RepRow G l cs) (h' : RepRow G l' cs') : RepRow G (l ++ l') (cs ++ cs') := by
  obtain ⟨a1, a2, a3⟩ := h
  obtain ⟨b1, b2, b3⟩ := h'
  refine ⟨by simp [a1, b1], fun j p v hp hv => ?_, fun j v hv => ?_⟩
  · rcases Nat.lt_or_ge j l.length with hj | hj
    · rw [List.getElem?_append_left hj] at hp
      rw [List.getElem?_append_left (by omega)] at hv
      exact a2 j p v hp hv
    · rw [List.getElem?_append_right hj] at hp
      rw [List.getElem?_append_right (by omega)] at hv
      rw [← a1] at hv
      exact b2 _ p v hp hv
  · rcases Nat.lt_or_ge j cs.length with hj | hj
    · rw [List.getElem?_append_left hj] at hv; exact a3 j v hv
    · rw [List.getElem?_append_right hj] at hv; exact b3 _ v hv
section
variable {H : Type} {enc : TypeId × Value → H} {P : Program} {W : World} {c : Nat}
/-- What reads at t is one of α, in rows. -/
def Reads (enc : TypeId × Value → H) (P : Program) (W : World) (c : Nat) (t : TypeId) {α : Type} (row : α → List PV) (ok : α → Prop) : Prop :=
  ∀ (fuel : Nat) (cs : List Value) (x : DataW H × List MemPlace), DataW.trod enc P W 0 (fun _ => true) true fuel t cs = some x → (∀ n ∈ x.1.weights P t, n ≤ reachBytes) →
    ∃ a, RepRow (Gh.start W c) (row a) cs ∧ ok a
theorem Reads.map {t : TypeId} {α β : Type} {row : α → List PV} {ok : α → Prop} {row' : β → List PV} {ok' : β → Prop} (h : Reads enc P W c t row ok) (f : α → β) (hr : ∀ a, ok a → row' (f a) = row a) (ho : ∀ a, ok a → ok' (f a)) : Reads enc P W c t row' ok' :=
  fun fuel cs x hx hw => let ⟨a, h1, h2⟩ := h fuel cs x hx hw; ⟨f a, by rw [hr a h2]; exact h1, ho a h2⟩
theorem reads_int {t : TypeId} {k : IntKind} (ht : P.underlying t = some (.int k)) : Reads enc P W c t (fun n : Int => [.val (.int k n)]) (fun n => (Lit.int k n).wf = true) := fun fuel cs x hx _ => by
  cases fuel with
  | zero => simp [DataW.trod] at hx
  | succ m =>
    unfold DataW.trod at hx
    rw [ht] at hx
    split at hx <;> simp_all
    rename_i n _ hk
    subst hk
    obtain ⟨hw, rfl⟩ := hx
    exact ⟨n, .one (.val _) rfl, hw.2⟩
theorem reads_bool {t : TypeId} (ht : P.underlying t = some .bool) : Reads enc P W c t (fun b : Bool => [.val (.bool b)]) (fun _ => True) := fun fuel cs x hx _ => by
  cases fuel with
  | zero => simp [DataW.trod] at hx
  | succ m =>
    unfold DataW.trod at hx
    rw [ht] at hx
    split at hx <;> simp_all
    rename_i b
    cases b
    · exact .inl (.one (.val _) rfl)
    · exact .inr (.one (.val _) rfl)
theorem reads_string {t : TypeId} (ht : P.underlying t = some .string) : Reads enc P W c t (fun s : ByteArray => [.val (.string s)]) (fun s => s.size ≤ reachBytes) := fun fuel cs x hx hw => by
  cases fuel with
  | zero => simp [DataW.trod] at hx
  | succ m =>
    unfold DataW.trod at hx
    rw [ht] at hx
    split at hx <;> simp_all
    rename_i s
    obtain ⟨_, rfl⟩ := hx
    exact ⟨s, .one (.val _) rfl, by simpa [DataW.weights] using hw⟩
theorem reads_float {t : TypeId} {k : FloatKind} (ht : P.underlying t = some (.float k)) : Reads enc P W c t (fun n : Nat => [.val (.float k n)]) (fun n => (Lit.float k n).wf = true) := fun fuel cs x hx _ => by
  cases fuel with
  | zero => simp [DataW.trod] at hx
  | succ m =>
    unfold DataW.trod at hx
    rw [ht] at hx
    split at hx <;> simp_all
    rename_i n _ hk
    subst hk
    obtain ⟨hw, rfl⟩ := hx
    exact ⟨n, .one (.val _) rfl, hw.2⟩
/-- Fields, one behind the other, from a place on. -/
def ReadsF (enc : TypeId × Value → H) (P : Program) (W : World) (c : Nat) (fs : List Field) (o : Nat) {α : Type} (row : α → List PV) (ok : α → Prop) : Prop :=
  ∀ (fuel : Nat) (cs : List Value) (xs : List (DataW H × List MemPlace)), (fs.mapM fun f => DataW.trod enc P W 0 (fun _ => true) true fuel f.type ((cs.drop f.offset).take (P.cellsOf f.type))) = some xs →
    (∀ n ∈ DataW.weightsEach P (fs.map (·.type)) (xs.map (·.1)), n ≤ reachBytes) → cs.length = o + ((fs.map fun f => P.cellsOf f.type).sum) → ∃ a, RepRow (Gh.start W c) (row a) (cs.drop o) ∧ ok a
theorem readsF_nil {o : Nat} : ReadsF enc P W c [] o (fun _ : Unit => []) (fun _ => True) := fun fuel cs xs _ _ hl => ⟨(), by
  rw [List.drop_eq_nil_of_le (by simpa using Nat.le_of_eq hl)]; exact .nil, trivial⟩
theorem readsF_cons {f : Field} {fs : List Field} {o n : Nat} {α β : Type} {row : α → List PV} {ok : α → Prop} {row' : β → List PV} {ok' : β → Prop} (ho : f.offset = o) (hn : P.cellsOf f.type = n)
    (h : Reads enc P W c f.type row ok) (h' : ReadsF enc P W c fs (o + n) row' ok') : ReadsF enc P W c (f :: fs) o (fun x : α × β => row x.1 ++ row' x.2) (fun x => ok x.1 ∧ ok' x.2) := fun fuel cs xs hx hw hl => by
  rw [List.mapM_cons] at hx
  simp only [Option.bind_eq_bind, Option.bind_eq_some_iff, Option.pure_def, Option.some.injEq] at hx
  obtain ⟨y, hy, ys, hys, rfl⟩ := hx
  simp only [List.map_cons, DataW.weightsEach, List.mem_append] at hw
  obtain ⟨a, r1, k1⟩ := h fuel _ y hy fun m hm => hw m (.inl hm)
  simp only [List.map_cons, List.sum_cons, hn] at hl
  obtain ⟨b, r2, k2⟩ := h' fuel cs ys hys (fun m hm => hw m (.inr hm)) (by omega)
  refine ⟨(a, b), ?_, k1, k2⟩
  have e : cs.drop o = (cs.drop o).take n ++ cs.drop (o + n) := by rw [← List.drop_drop, List.take_append_drop]
  rw [e]
  rw [ho, hn] at r1
  exact r1.append r2
theorem reads_struct {t : TypeId} {fs : Array Field} {α : Type} {row : α → List PV} {ok : α → Prop} (ht : P.underlying t = some (.struct fs)) (hs : P.cellsOf t = (fs.toList.map fun f => P.cellsOf f.type).sum) (h : ReadsF enc P W c fs.toList 0 row ok) :
    Reads enc P W c t row ok := fun fuel cs x hx hw => by
  cases fuel with
  | zero => simp [DataW.trod] at hx
  | succ m =>
    unfold DataW.trod at hx
    rw [ht] at hx
    dsimp only at hx
    split at hx
    · rename_i hl
      simp only [Option.map_eq_some_iff] at hx
      obtain ⟨xs, hxs, rfl⟩ := hx
      obtain ⟨a, h1, h2⟩ := h m cs xs hxs (fun n hn => hw n (by simpa [DataW.weights, ht] using hn)) (by omega)
      exact ⟨a, by simpa using h1, h2⟩
    · cases hx
theorem cells?_get {a : Addr} {n : Nat} {cs : List Value} (h : W.cells? 0 a n = some cs) : cs.length = n ∧ ∀ j, j < n → W.cell? (a.add j) = cs[j]? := by
  unfold World.cells? at h
  rw [if_pos (Nat.zero_le _)] at h
  exact ⟨by simpa using mapM_some_length h, fun j hj => mapM_some_get h j j (by simp [hj])⟩
theorem weightsAll_mem {e : TypeId} {n : Nat} : ∀ {ds : List (DataW H)} {d : DataW H}, d ∈ ds → n ∈ d.weights P e → n ∈ DataW.weightsAll P e ds
  | d0 :: ds, d, hd, hn => by
    rw [DataW.weightsAll, List.mem_append]
    rcases List.mem_cons.1 hd with rfl | hd
    · exact .inl hn
    · exact .inr (weightsAll_mem hd hn)
theorem reads_slice {t e : TypeId} {α : Type} {row : α → List PV} {ok : α → Prop} {sz : Nat} (ht : P.underlying t = some (.slice e)) (hsz : P.cellsOf e = sz) (h0 : 0 < sz) (h : Reads enc P W c e row ok) (hc2 : c < 2 := by first | decide | omega) :
    Reads enc P W c t (fun xs : List α => [PV.sl c sz (xs.map row)]) (fun xs => xs.length * P.bytesOf e ≤ reachBytes ∧ ∀ x ∈ xs, ok x) := fun fuel cs x hx hw => by
  rcases DataW.trod_slice ht hx with ⟨rfl, rfl⟩ | ⟨a, len, cap, elems, rest, n, rfl, rfl, rfl, _, hle, hmax, hlen, hel, -, -⟩
  · exact ⟨[], .one .nilSlice rfl, by simp, by simp⟩
  · have hwe : ∀ (i : Nat) (y : DataW H × List MemPlace), elems[i]? = some y → ∀ n ∈ y.1.weights P e, n ≤ reachBytes := fun i y hy n hn => hw n (by
      simp only [DataW.weights, ht, List.mem_cons, List.mem_append]
      exact .inr (.inl (weightsAll_mem (List.mem_map.2 ⟨y, List.mem_of_getElem? hy, rfl⟩) hn)))
    have key : ∀ i, i < len → ∃ (ci : List Value) (x : α), W.cells? 0 (a.add (i * sz)) sz = some ci ∧ RepRow (Gh.start W c) (row x) ci ∧ ok x := fun i hi => by
      have h1 := hel i hi
      rw [hsz] at h1
      cases hc : W.cells? 0 (a.add (i * sz)) sz with
      | none => rw [hc] at h1; simp at h1; omega
      | some ci =>
        rw [hc] at h1
        simp only [Option.bind_some] at h1
        have hi' : i < elems.length := by omega
        rw [List.getElem?_eq_getElem hi'] at h1
        obtain ⟨x, k1, k2⟩ := h n ci _ h1 (hwe i _ (List.getElem?_eq_getElem hi'))
        exact ⟨ci, x, rfl, k1, k2⟩
    have hbytes : len * P.bytesOf e ≤ reachBytes := by
      have := hw ((elems.length + rest.length) * P.bytesOf e) (by simp [DataW.weights, ht])
      refine Nat.le_trans (Nat.mul_le_mul_right _ ?_) this
      omega
    by_cases hz : len = 0
    · subst hz
      exact ⟨[], .one .emptySlice rfl, by simp, by simp⟩
    · have hspot : a = ⟨a.block, a.off, none⟩ := by
        obtain ⟨ci, x, hc, -, -⟩ := key 0 (by omega)
        have := (cells?_get hc).2 0 h0
        simp [Addr.add] at this
        have hlen' := (cells?_get hc).1
        rw [List.getElem?_eq_getElem (by omega)] at this
        unfold World.cell? at this
        split at this
        · split at this
          · cases this
          · rename_i hs
            obtain ⟨b, o, s⟩ := a
            cases s with
            | none => rfl
            | some s => simp at hs
        · cases this
      obtain ⟨b, o, s⟩ := a
      obtain rfl : s = none := by simpa using hspot
      clear hspot
      let ex : Fin len → α := fun i => Classical.choose (Classical.choose_spec (key i.1 i.2))
      have hxs : ∀ i : Fin len, ∃ ci, W.cells? 0 ((⟨b, o, none⟩ : Addr).add (i.1 * sz)) sz = some ci ∧ RepRow (Gh.start W c) (row (ex i)) ci ∧ ok (ex i) := fun i => ⟨_, Classical.choose_spec (Classical.choose_spec (key i.1 i.2))⟩
      refine ⟨List.ofFn ex, ?_, by simpa using hbytes, fun x hx => ?_⟩
      · have hrow : ∀ (i : Nat) (r : List PV), ((List.ofFn ex).map row)[i]? = some r → ∃ hi : i < len, r = row (ex ⟨i, hi⟩) := fun i r hr => by
          rw [List.getElem?_map, List.getElem?_ofFn] at hr
          split at hr
          · rename_i hi; simp at hr; exact ⟨hi, hr.symm⟩
          · simp at hr
        have hcell : ∀ (i : Nat) (r : List PV) (j : Nat) (p : PV), ((List.ofFn ex).map row)[i]? = some r → r[j]? = some p → ∃ v, (Gh.start W c).cell c b (o + i * sz + j) = some v ∧ v.oneCell' = true ∧ Rep (Gh.start W c) p v := fun i r j p hr hp => by
          obtain ⟨hi, rfl⟩ := hrow i r hr
          obtain ⟨ci, hc, ⟨q1, q2, q3⟩, -⟩ := hxs ⟨i, hi⟩
          have hj : j < sz := by
            have := (List.getElem?_eq_some_iff.1 hp).1
            rw [q1, (cells?_get hc).1] at this
            exact this
          have hcj := (cells?_get hc).2 j hj
          have hjl : j < ci.length := by rw [(cells?_get hc).1]; exact hj
          rw [List.getElem?_eq_getElem hjl] at hcj
          refine ⟨ci[j], ?_, q3 j _ (List.getElem?_eq_getElem hjl), q2 j p _ hp (List.getElem?_eq_getElem hjl)⟩
          have e : ((⟨b, o, none⟩ : Addr).add (i * sz)).add j = ⟨b, o + i * sz + j, none⟩ := by
            simp only [Addr.add]; split <;> split <;> simp_all
          rw [e] at hcj
          unfold World.cell? at hcj
          unfold Gh.cell Gh.start
          dsimp only at hcj ⊢
          split at hcj
          · rename_i vs t f hh
            rw [hh]
            simpa using hcj
          · cases hcj
        refine .one ?_ rfl
        have hne : ((List.ofFn ex).map row) ≠ [] := by simp; omega
        rw [show PV.sl c sz ((List.ofFn ex).map row) = .slice c sz ((List.ofFn ex).map row) by cases e : (List.ofFn ex).map row with | nil => exact absurd e hne | cons => rfl]
        have hL : ((List.ofFn ex).map row).length = len := by simp
        conv => rhs; rw [← hL]
        refine .slice (fun i j => ((Gh.start W c).cell c b (o + i * sz + j)).getD undef) (fun h => absurd h (by omega)) (by rw [hL]; exact hle) (fun i r hr => ?_) (fun i r j p hr hp => ?_) (fun i r j p hr hp => ?_) (fun i r j p hr hp => ?_)
        · obtain ⟨hi, rfl⟩ := hrow i r hr
          obtain ⟨ci, hc, ⟨q1, -, -⟩, -⟩ := hxs ⟨i, hi⟩
          rw [q1, (cells?_get hc).1]
        all_goals (obtain ⟨v, e1, e2, e3⟩ := hcell i r j p hr hp; simp [e1, e2, e3])
      · rw [List.mem_ofFn] at hx
        obtain ⟨i, rfl⟩ := hx
        obtain ⟨ci, -, -, h3⟩ := hxs i
        exact h3
end
section
variable {P : Program} {H : AS}
/-- What the body owes where its results are handed on as they are, with the memory that it leaves. -/
def OwesO (P : Program) (fn : Func) (k : PV → AS → Prop) (e : Exit) (F' : AF) (H' : AS) : Prop :=
  (e = .normal ∨ e = .ret) ∧ match aResults P F' H' fn.results.toList with
    | some rs => k (packed rs) H'
    | none => False
theorem ACalls_open {f : FuncId} {fn : Func} {c : Code} {args : List PV} {k : PV → AS → Prop} (hf : P.funcs[f]? = some fn) (hb : fn.body = some c) (hname : (fn.name == "runtime.NumGoroutine") = false) (hargs : args.length ≤ fn.ntmps)
    (h : WF H → (∀ p ∈ args, Below H.next p) → T P fn.ntmps H.next c (frame0 args) H (OwesO P fn k)) : ACalls P f args H k := by
  refine .inl ⟨⟨fn, hf, by rw [hb]; rfl, hname⟩, fun G w vs hr hall => ?_⟩
  have hlen := hall.get.1
  have hbel : ∀ p ∈ args, Below H.next p := fun p hp => by
    obtain ⟨j, hj⟩ := List.getElem?_of_mem hp
    have hlt : j < vs.length := by rw [← hlen]; exact (List.getElem?_eq_some_iff.1 hj).1
    exact (hall.get.2 j p vs[j] hj (List.getElem?_eq_getElem hlt)).isBelow (fun i l x e => by rw [← hr.next]; exact hr.dom i l x e) (fun i x e => by rw [← hr.next]; exact hr.mdom i x e)
  have hT := h hr.wf hbel G G w _ hr.dom' (.refl G) hr (by
    have := frame0_rep hall (fn.ntmps - vs.length)
    rwa [show vs.length + (fn.ntmps - vs.length) = fn.ntmps by omega] at this)
  refine calls_of_wp hf hb ?_
  rw [show vs.toArray.size = vs.length by simp]
  refine wp_mono hT ?_
  rintro e a' w' ⟨hfine, G', F', H', hle, hr', hF', hex, howe⟩
  split at howe
  · rename_i rs hrs
    obtain ⟨us, hrun, hall'⟩ := aResults_sound hr' hF' _ _ hrs
    have hrep := packed_rep hall'
    have hres : (results fn a'.tmps).run P w' = .ok (if h : us.length = 1 then us[0]'(by omega) else .tuple us.toArray) w' := by
      unfold results
      rw [Array.mapM_eq_mapM_toList]
      show Sem.run P (Bind.bind (Bind.bind (fn.results.toList.mapM (resOf a'.tmps)) (pure ∘ List.toArray)) _) w' = _
      simp only [Sem.run_bind, hrun, Result.andThen_ok, Function.comp, Sem.run_pure]
      simp
    have fin : a'.defers = [] ∧ ∃ v, (results fn a'.tmps).run P w' = .ok v w' ∧ ∃ v' G' q H', Ending.returned v = .returned v' ∧ G.le G' ∧ Rel G' H' w' ∧ Rep G' q v' ∧ k q H' :=
      ⟨hF'.defers, _, hres, _, _, _, _, rfl, hle, hr', hrep, howe⟩
    rcases hex with rfl | rfl
    · exact fin
    · exact fin
  · exact howe.elim
theorem owesO_one {fn : Func} {p : PV} {F' : AF} {H' : AS} {e : Exit} {k : PV → AS → Prop} (he : e = .normal ∨ e = .ret) (hr : aResults P F' H' fn.results.toList = some [p]) (hk : k p H') : OwesO P fn k e F' H' := by
  refine ⟨he, ?_⟩
  rw [hr]; exact hk
theorem OutIs.mk {lo id sz n : Nat} {H : AS} {rows : List (List PV)} (h1 : lo ≤ id) (h2 : id < H.next) (h3 : H.box id = some rows) (hn : rows.length = n) : OutIs lo H (.msl id n sz) sz rows := .inr ⟨id, h1, h2, by rw [hn], h3⟩
theorem OutIs.lower {lo lo' sz : Nat} {H : AS} {p : PV} {rows : List (List PV)} (h : OutIs lo H p sz rows) (hl : lo' ≤ lo) : OutIs lo' H p sz rows := by
  rcases h with ⟨rfl, rfl⟩ | ⟨id, h1, h2, h3, h4⟩
  · exact .nil
  · exact .inr ⟨id, by omega, h2, h3, h4⟩
/-- An argument that is nil may be told as the empty list. -/
theorem ACalls.of_nil {f : FuncId} {args args' : List PV} {k : PV → AS → Prop} (h : ACalls P f args H k) (ha : ∀ (G : Gh) (vs : List Value), RepAll G args' vs → RepAll G args vs) : ACalls P f args' H k := by
  rcases h with h | ⟨fn, e, h1, h2, h3, h4, h5, h⟩
  · exact .inl ⟨h.1, fun G w vs hr hall => h.2 G w vs hr (ha G vs hall)⟩
  · exact .inr ⟨fn, e, h1, h2, h3, h4, h5, fun G w vs hr hall => h G w vs hr (ha G vs hall)⟩
/-- A contract told of plain values, that leaves the world as it was. -/
theorem ACalls.of_plain {f : FuncId} {fn : Func} {vs : List Value} {v : Value} (hf : P.funcs[f]? = some fn) (hb : fn.body.isSome = true) (hname : (fn.name == "runtime.NumGoroutine") = false)
    (h : ∀ w, Calls P f vs.toArray w fun e w' => e = .returned v ∧ w' = w) : ACalls P f (vs.map .val) H fun q H' => q = .val v ∧ H' = H := by
  refine .inl ⟨⟨fn, hf, hb, hname⟩, fun G w us hr hall => ?_⟩
  have e : us = vs := by
    have key : ∀ (vs us : List Value), RepAll G (vs.map .val) us → us = vs := by
      intro vs
      induction vs with
      | nil => intro us h; cases us with
        | nil => rfl
        | cons => exact h.elim
      | cons v vs ih => intro us h; cases us with
        | nil => exact h.elim
        | cons u us => rw [rep_val h.1, ih us h.2]
    exact key vs us hall
  subst e
  refine (h w).mono ?_
  rintro e w' ⟨rfl, rfl⟩
  exact ⟨v, G, .val v, H, rfl, .refl G, hr, .val v, rfl, rfl⟩
end
section
variable {P : Program} {H : AS}
theorem ACalls.frz {f : FuncId} {args : List PV} {k : PV → AS → Prop} (h : ACalls P f (frzVs H args).1 (frzVs H args).2 k) : ACalls P f args H k := by
  rcases h with h | ⟨fn, e, h1, h2, h3, h4, h5, h⟩
  · refine .inl ⟨h.1, fun G w vs hr ha => ?_⟩
    obtain ⟨G1, le1, r1, p1⟩ := frzVs_sound args hr ha
    exact (h.2 G1 w vs r1 p1).mono fun _ _ ⟨v, G', q, H', e, l, r, p, hq⟩ => ⟨v, G', q, H', e, le1.trans l, r, p, hq⟩
  · refine .inr ⟨fn, e, h1, h2, h3, h4, h5, fun G w vs hr ha => ?_⟩
    obtain ⟨G1, le1, r1, p1⟩ := frzVs_sound args hr ha
    obtain ⟨v, w', G', q, H', a, b, c, d, hq⟩ := h G1 w vs r1 p1
    exact ⟨v, w', G', q, H', a, le1.trans b, c, d, hq⟩
theorem ACalls.frz_out {f : FuncId} {lo sz : Nat} {p : PV} {rows : List (List PV)} {k : PV → AS → Prop} (hout : OutIs lo H p sz rows) (h : ∀ H1, Above lo H H1 → H1.next = H.next → H1.color = H.color → ACalls P f [PV.sl H.color sz rows] H1 k) : ACalls P f [p] H k := by
  refine ACalls.frz ?_
  rcases hout with ⟨rfl, rfl⟩ | ⟨id, h1, h2, rfl, h4⟩
  · exact h H .refl rfl rfl
  · have e : frzVs H [.msl id rows.length sz] = ([PV.sl H.color sz rows], H.kill id) := by simp [frzVs, frzV, _root_.Go.Abs.frz, h4]
    rw [e]
    exact h (H.kill id) (fun H0 h0 hext => AS.Ext.kill (by omega) hext) rfl rfl
theorem rep_nilS {G : Gh} {c sz : Nat} {v : Value} (h : Rep G (.val (.slice none 0 0)) v) : Rep G (PV.sl c sz []) v := by
  have := rep_val h
  subst this
  exact .nilSlice
end
set_option linter.unusedSimpArgs false
/-- To be executed by simp. -/
structure Run (p : Prop) : Prop where
  of ::
  run : p
/-- What follows. -/
structure Kt [k : Kont (AF → AS → Prop)] (F : AF) (H : AS) : Prop where
  of ::
  run : k.run F H
/-- What follows an exit. -/
structure Kx (e : Exit) [k : Kont (Exit → AF → AS → Prop)] (F : AF) (H : AS) : Prop where
  of ::
  run : k.run e F H
structure Hid [k : Kont Prop] : Prop where
  of ::
  run : k.run
/-- Two ways. -/
structure Gs (b : Bool) [A : Kont Prop] [B : Kont Prop] : Prop where
  of ::
  yes : b = true → A.run
  no : b = false → B.run
/-- Two ways within a region. -/
structure Gr (b : Bool) [A : Kont Prop] [B : Kont Prop] : Prop where
  of ::
  yes : b = true → Run A.run
  no : b = false → Run B.run
section
variable {k : AF → AS → Prop} {kx : Exit → AF → AS → Prop} {A B : Prop} {F : AF} {H : AS} {e : Exit} {b : Bool}
theorem Kt.mk (h : k F H) : @Kt ⟨k⟩ F H := @Kt.of ⟨k⟩ F H h
theorem Kt.get (h : @Kt ⟨k⟩ F H) : k F H := @Kt.run ⟨k⟩ F H h
theorem Kx.mk (h : kx e F H) : @Kx e ⟨kx⟩ F H := @Kx.of e ⟨kx⟩ F H h
theorem Kx.get (h : @Kx e ⟨kx⟩ F H) : kx e F H := @Kx.run e ⟨kx⟩ F H h
theorem Hid.mk (h : A) : @Hid ⟨A⟩ := @Hid.of ⟨A⟩ h
theorem Hid.get (h : @Hid ⟨A⟩) : A := @Hid.run ⟨A⟩ h
theorem Gs.mk (h : b = true → A) (h' : b = false → B) : @Gs b ⟨A⟩ ⟨B⟩ := @Gs.of b ⟨A⟩ ⟨B⟩ h h'
theorem Gs.t (h : @Gs b ⟨A⟩ ⟨B⟩) : b = true → A := @Gs.yes b ⟨A⟩ ⟨B⟩ h
theorem Gs.f (h : @Gs b ⟨A⟩ ⟨B⟩) : b = false → B := @Gs.no b ⟨A⟩ ⟨B⟩ h
theorem Gr.mk (h : b = true → Run A) (h' : b = false → Run B) : @Gr b ⟨A⟩ ⟨B⟩ := @Gr.of b ⟨A⟩ ⟨B⟩ h h'
theorem Gr.t (h : @Gr b ⟨A⟩ ⟨B⟩) : b = true → Run A := @Gr.yes b ⟨A⟩ ⟨B⟩ h
theorem Gr.f (h : @Gr b ⟨A⟩ ⟨B⟩) : b = false → Run B := @Gr.no b ⟨A⟩ ⟨B⟩ h
theorem Gs_true : @Gs true ⟨A⟩ ⟨B⟩ = @Hid ⟨A⟩ := propext ⟨fun h => .mk (h.t rfl), fun h => .mk (fun _ => h.get) fun e => by cases e⟩
theorem Gs_false : @Gs false ⟨A⟩ ⟨B⟩ = @Hid ⟨B⟩ := propext ⟨fun h => .mk (h.f rfl), fun h => .mk (fun e => by cases e) fun _ => h.get⟩
theorem gcond_Gr : @gcond b ⟨A⟩ ⟨B⟩ = @Gr b ⟨A⟩ ⟨B⟩ := by
  cases b
  · exact propext ⟨fun h => .mk (fun e => nomatch e) (fun _ => ⟨h⟩), fun h => (h.f rfl).run⟩
  · exact propext ⟨fun h => .mk (fun _ => ⟨h⟩) (fun e => nomatch e), fun h => (h.t rfl).run⟩
theorem Gr_true : @Gr true ⟨A⟩ ⟨B⟩ = A := propext ⟨fun h => (h.t rfl).run, fun h => .mk (fun _ => ⟨h⟩) (fun e => nomatch e)⟩
theorem Gr_false : @Gr false ⟨A⟩ ⟨B⟩ = B := propext ⟨fun h => (h.f rfl).run, fun h => .mk (fun e => nomatch e) (fun _ => ⟨h⟩)⟩
end
section
variable {P : Program} {n b : Nat} {F : AF} {H : AS} {Q : Exit → AF → AS → Prop}
theorem T_rgn {id : Nat} {l : List Oper} (h : Run (aList P l.toArray l F H (@Kt ⟨Q .normal⟩))) (hok : regionOk n l.toArray = true := by kernel_rfl) : T P n b (.region id l.toArray false) F H Q :=
  (T_region (Q := fun e F H => match e with | .normal => @Kt ⟨Q .normal⟩ F H | e => Q e F H) hok h.run).mono fun e F H _ hq => by
    cases e <;> first | exact hq.get | exact hq
theorem T_cd {c : Operand} {x y : Code} (h : Run (@boolOf (F.ev c) ⟨fun t => @Gs t ⟨T P n b x F H Q⟩ ⟨T P n b y F H Q⟩⟩)) : T P n b (.cond c x y) F H Q := by
  have h := h.run
  unfold boolOf at h
  split at h
  · rename_i t e
    exact T_cond e h.t h.f
  · exact h.elim
theorem T_sk (h : @Kt ⟨Q .normal⟩ F H) : T P n b .skip F H Q := T_skip h.get
theorem T_rt (h : @Kx .ret ⟨Q⟩ F H) : T P n b .ret F H Q := T_ret h.get
theorem T_ex {i : Nat} (h : @Kx (.exit i) ⟨Q⟩ F H) : T P n b (.exit i) F H Q := T_exit h.get
theorem Kt_then {y : Code} (h : T P n b y F H Q) : @Kt ⟨(thenT P n b y Q) .normal⟩ F H := .mk h
theorem Kt_block {i : Nat} (h : @Kt ⟨Q .normal⟩ F H) : @Kt ⟨(blockT i Q) .normal⟩ F H := .mk h.get
theorem Kt_loop {I : Nat → AF → AS → Prop} {k : Nat} (h : ∃ k', k' < k ∧ I k' F H) : @Kt ⟨(loopT I k Q) .normal⟩ F H := .mk h
theorem Kr_then {y : Code} (h : @Kx .ret ⟨Q⟩ F H) : @Kx .ret ⟨thenT P n b y Q⟩ F H := .mk h.get
theorem Kr_block {i : Nat} (h : @Kx .ret ⟨Q⟩ F H) : @Kx .ret ⟨blockT i Q⟩ F H := .mk h.get
theorem Kr_loop {I : Nat → AF → AS → Prop} {k : Nat} (h : @Kx .ret ⟨Q⟩ F H) : @Kx .ret ⟨loopT I k Q⟩ F H := .mk h.get
theorem Ke_then {y : Code} {i : Nat} (h : @Kx (.exit i) ⟨Q⟩ F H) : @Kx (.exit i) ⟨thenT P n b y Q⟩ F H := .mk h.get
theorem Ke_loop {I : Nat → AF → AS → Prop} {k i : Nat} (h : @Kx (.exit i) ⟨Q⟩ F H) : @Kx (.exit i) ⟨loopT I k Q⟩ F H := .mk h.get
theorem Ke_here {i : Nat} (h : @Kt ⟨Q .normal⟩ F H) : @Kx (.exit i) ⟨blockT i Q⟩ F H := .mk (by simp; exact h.get)
theorem Ke_block {i j : Nat} (h : @Kx (.exit i) ⟨Q⟩ F H) (hne : ¬ i = j := by decide) : @Kx (.exit i) ⟨blockT j Q⟩ F H := .mk (by simp [hne]; exact h.get)
theorem T_lp {c : Code} (I : Nat → AF → AS → Prop) (k : Nat) (h0 : I k F H) (hstep : ∀ k F H, I k F H → T P n b c F H (loopT I k Q)) : T P n b (.loop c) F H Q := T_loop I k h0 hstep
theorem T_md {x y : Code} (R : AF → AS → Prop) (h : T P n b x F H (thenT P n b y Q)) : T P n b (.seq x y) F H Q := T_seq h
/-- A join: what holds between. -/
theorem T_jn {x y : Code} (R : AF → AS → Prop) (h : T P n b x F H (thenK R Q)) (h' : ∀ F H, R F H → T P n b y F H Q) : T P n b (.seq x y) F H Q := T_mid R h h'
theorem Kt_thenK {R : AF → AS → Prop} (h : R F H) : @Kt ⟨(thenK R Q) .normal⟩ F H := .mk h
theorem Kr_thenK {R : AF → AS → Prop} (h : @Kx .ret ⟨Q⟩ F H) : @Kx .ret ⟨thenK R Q⟩ F H := .mk h.get
theorem Ke_thenK {R : AF → AS → Prop} {i : Nat} (h : @Kx (.exit i) ⟨Q⟩ F H) : @Kx (.exit i) ⟨thenK R Q⟩ F H := .mk h.get
theorem callR {f : FuncId} {args : List PV} {k k0 : PV → AS → Prop} (h : ACalls P f args H k0) (hk : ∀ q H', k0 q H' → Run (k q H')) : @callK P f args H ⟨k⟩ := h.mono fun q H' hq => (hk q H' hq).run
theorem appR {s t : TypeId} {x y : PV} {k : PV → AS → Prop} (h : aappend P H s t x y (fun q H' => Run (k q H'))) : @appendK P H s t x y ⟨k⟩ := appendK.of (aappend_mono (fun q H' h => h.run) h)
theorem askR {L : Nat → Prop} {g : FuncId} {args : List PV} {X : PV → Prop} (q : AS → PV) (hq : ∀ H', Same L H H' → q H' = q H) (hc : ∀ H', Same L H H' → ACalls P g args H' fun r H'' => r = q H' ∧ H'' = H') (hX : Run (X (q H))) : @askK P L H g args ⟨X⟩ := Ask.of q hq hc hX.run
theorem T_dr {id : Nat} {l : List Oper} (L : Nat → Prop) (late : List Nat) (c : Ord) (hm : P.follows .mixedOrders = true) (h : Run (aWalk P l.toArray L late c F H (@Kt ⟨Q .normal⟩))) (ho : orderOk l.toArray late c = true := by kernel_rfl) (hok : regionOk n l.toArray = true := by kernel_rfl) : T P n b (.region id l.toArray true) F H Q :=
  (T_draw (Q := fun e F H => match e with | .normal => @Kt ⟨Q .normal⟩ F H | e => Q e F H) L late c hm hok ho h.run).mono fun e F H _ hq => by
    cases e <;> first | exact hq.get | exact hq
end
end Go.Abs
