/- The abstract layer, part 11: one operation is the model's. -/
import Derived.Test.YtahkpjbhjkmedaaK10
namespace Go.Abs
set_option autoImplicit false

/-- What is looked at once in a region: results lie in the frame, literals hold cells. -/
def regionOk (n : Nat) (ops : Array Oper) : Bool := ops.all fun o => (match o.dst with | some d => decide (d < n) | none => true) && o.op.operands.all litOk

section
variable {P : Program} {G : Gh} {H : AS} {w : World} {n : Nat} {F : AF} {a : Act}

theorem RepF.parts (h : RepF n G F a) (parts : Array (Nat × Operand)) (hl : ∀ x ∈ parts.toList, litOk x.2 = true) :
    (parts.toList.map fun x => (x.1, F.ev x.2)).length = (parts.toList.map fun x => (x.1, a.eval x.2)).length ∧
    ∀ (i : Nat) (x : Nat × PV) (y : Nat × Value), (parts.toList.map fun x => (x.1, F.ev x.2))[i]? = some x → (parts.toList.map fun x => (x.1, a.eval x.2))[i]? = some y → x.1 = y.1 ∧ Rep G x.2 y.2 := by
  refine ⟨by simp, fun i x y hx hy => ?_⟩
  rw [List.getElem?_map] at hx hy
  simp only [Option.map_eq_some_iff] at hx hy
  obtain ⟨u, hu, rfl⟩ := hx
  obtain ⟨v, hv, rfl⟩ := hy
  rw [hu] at hv; cases hv
  exact ⟨rfl, h.ev (hl u (List.mem_of_getElem? hu))⟩

theorem RepF.opt (h : RepF n G F a) (x : Option Operand) (hl : ∀ y, x = some y → litOk y = true) : RepOpt G (x.map F.ev) (x.map a.eval) := by
  cases x with
  | none => trivial
  | some y => exact h.ev (hl y rfl)

theorem RepF.all (h : RepF n G F a) (xs : Array Operand) (hl : ∀ x ∈ xs.toList, litOk x = true) : RepAll G (xs.toList.map F.ev) (xs.toList.map a.eval) :=
  RepAll.of_map _ _ _ fun x hx => h.ev (hl x hx)

theorem lenOf_sound {x : PV} {u : Value} {m : Nat} (hx : Rep G x u) (h : lenOf x = some m) : ∃ a cap, u = .slice a m cap := by
  unfold lenOf at h
  split at h <;> simp at h <;> try subst h
  · cases hx; exact ⟨_, _, rfl⟩
  · cases hx with
    | slice => exact ⟨_, _, rfl⟩
    | nilSlice => exact ⟨_, _, rfl⟩
    | emptySlice => exact ⟨_, _, rfl⟩
  · cases hx; exact ⟨_, _, rfl⟩

theorem aLen_sound {t ty : TypeId} {x q : PV} {u : Value} (hx : Rep G x u) (h : aLen P t x = some q) (w : World) : ∃ r, (Builtin.len_ #[t] ty #[u]).run P w = .ok r w ∧ Rep G q r := by
  unfold aLen at h
  split at h
  · rename_i hu
    split at h
    · cases hx
      simp at h; subst h
      exact ⟨_, by simp [Builtin.len_, run_underlying hu] <;> rfl, .val _⟩
    · cases h
  · rename_i e hu
    simp only [Option.map_eq_some_iff] at h
    obtain ⟨m, hm, rfl⟩ := h
    obtain ⟨a, cap, rfl⟩ := lenOf_sound hx hm
    exact ⟨_, by simp [Builtin.len_, run_underlying hu] <;> rfl, .val _⟩
  · rename_i k e hu
    simp at h; subst h
    exact ⟨_, by simp [Builtin.len_, run_underlying hu] <;> rfl, .val _⟩
  · cases h

theorem aPure_sound (h : RepF n G F a) {o : Oper} {q : PV} (hl : ∀ x ∈ o.op.operands, litOk x = true) (hp : aPure P F o = some q) (w : World) : ∃ v, (execOp a.eval o).run P w = .ok (.value v) w ∧ Rep G q v := by
  have lift : ∀ {s : Sem Value}, (∃ v, s.run P w = .ok v w ∧ Rep G q v) → ∃ v, (do pure (.value (← s)) : Sem Next).run P w = .ok (.value v) w ∧ Rep G q v := by
    rintro s ⟨v, e, hr⟩
    exact ⟨v, by simp [e], hr⟩
  unfold aPure at hp
  unfold execOp
  obtain ⟨dst, op, ty, pos, after, guard⟩ := o
  dsimp only at hp hl ⊢
  split at hp
  · rename_i x
    simp at hp; subst hp
    exact ⟨_, rfl, h.ev (hl x (by simp [Op.operands]))⟩
  · rename_i x
    simp at hp; subst hp
    exact ⟨_, rfl, h.ev (hl x (by simp [Op.operands]))⟩
  · rename_i c x y
    have hc := h.ev (hl c (by simp [Op.operands]))
    split at hp
    · rename_i t e
      simp at hp; subst hp
      rw [e] at hc
      have hc' := rep_val hc
      have hx := h.ev (hl x (by simp [Op.operands]))
      have hy := h.ev (hl y (by simp [Op.operands]))
      refine ⟨if t then a.eval x else a.eval y, by simp [hc', asBool] <;> cases t <;> rfl, ?_⟩
      cases t
      · simpa using hy
      · simpa using hx
    · cases hp
  · rename_i t parts
    obtain ⟨p1, p2⟩ := h.parts parts (fun x hx => hl x.2 (by simp [Op.operands]; exact ⟨x.1, by simpa using hx⟩))
    obtain ⟨r, hr, hrep⟩ := aBuild_sound p1 p2 hp w
    refine lift ⟨r, ?_, hrep⟩
    rw [← hr]
    congr 2
    apply Array.ext'
    simp
  · rename_i x
    have hx := h.ev (hl x (by simp [Op.operands]))
    dsimp only
    generalize a.eval x = u at hx ⊢
    split at hp
    · rename_i e; simp at hp; subst hp; rw [e] at hx
      have hx' := hx
      cases hx' with
      | ptr hv => exact ⟨_, rfl, hx⟩
    · rename_i e; simp at hp; subst hp; rw [e] at hx
      have hx' := hx
      cases hx' with
      | rptr => exact ⟨_, rfl, hx⟩
    · rename_i e; simp at hp; subst hp; rw [e] at hx
      have hx' := hx
      cases hx' with
      | func => exact ⟨_, rfl, hx⟩
    · rename_i e; simp at hp; subst hp; rw [e] at hx
      have hx' := hx
      cases hx' with
      | iface => exact ⟨_, rfl, hx⟩
    · cases hp
  · rename_i op t x y yt
    exact lift (aBin_sound (h.ev (hl x (by simp [Op.operands]))) (h.ev (hl y (by simp [Op.operands]))) x y hp w)
  · rename_i op t x
    exact lift (aUn_sound (h.ev (hl x (by simp [Op.operands]))) hp w)
  · rename_i s d x
    exact lift (aConvert_sound (h.ev (hl x (by simp [Op.operands]))) hp w)
  · rename_i t x
    split at hp
    · cases hp
    · rename_i d hn hu
      simp at hp; subst hp
      refine lift ⟨.iface t (a.eval x), ?_, .iface (h.ev (hl x (by simp [Op.operands])))⟩
      simp only [Instr.makeInterface, Sem.run_bind, run_underlying hu, Result.andThen_ok]
      cases d <;> first | rfl | exact absurd rfl (hn _)
    · cases hp
  · rename_i f first caps
    split at hp
    · rename_i h0
      simp at hp; subst hp
      refine lift ⟨.func (.func f) #[] (caps.map a.eval), ?_, ?_⟩
      · have : first = #[] := by simpa using h0
        subst this; simp [Instr.makeFunc]
      · refine .func (by simp) (fun j p v hj hv => ?_)
        rw [List.getElem?_map] at hj
        simp only [Option.map_eq_some_iff] at hj
        obtain ⟨x, hx, rfl⟩ := hj
        simp only [Array.getElem?_map, Option.map_eq_some_iff] at hv
        obtain ⟨y, hy, rfl⟩ := hv
        have hxy : y = x := by simpa [hy] using hx
        subst hxy
        exact h.ev (hl y (by simp [Op.operands]; exact .inr (Array.mem_of_getElem? hy)))
    · cases hp
  · rename_i t x lo hi
    exact lift (aCutOp_sound (h.ev (hl x (by simp [Op.operands]))) (h.opt lo (fun y e => hl y (by subst e; simp [Op.operands]))) (h.opt hi (fun y e => hl y (by subst e; simp [Op.operands]))) hp w)
  · rename_i s x f
    exact lift (aFieldAddr_sound (h.ev (hl x (by simp [Op.operands]))) hp w)
  · rename_i s x f
    exact lift (aField_sound (h.ev (hl x (by simp [Op.operands]))) hp w)
  · rename_i t x i
    exact lift (aIndexAddr_sound (h.ev (hl x (by simp [Op.operands]))) (h.ev (hl i (by simp [Op.operands]))) hp w)
  · rename_i t x i
    exact lift (aIndex_sound (h.ev (hl x (by simp [Op.operands]))) (h.ev (hl i (by simp [Op.operands]))) hp w)
  · rename_i x i
    have hx := h.ev (hl x (by simp [Op.operands]))
    unfold aExtract at hp
    split at hp
    · rename_i vs e
      rw [e] at hx
      dsimp only
      generalize a.eval x = u at hx ⊢
      cases hx with
      | tuple h1 h2 =>
        rename_i us
        have hlt : i < us.size := by rw [← h1]; exact (List.getElem?_eq_some_iff.1 hp).1
        exact lift ⟨us[i], by simp [Instr.extract, hlt], h2 i q _ hp (by simp [hlt])⟩
    · cases hp
  · rename_i args argTypes
    split at hp
    · rename_i x t e1 e2
      have h1 : args = #[x] := by apply Array.ext'; simpa using e1
      have h2 : argTypes = #[t] := by apply Array.ext'; simpa using e2
      subst h1; subst h2
      obtain ⟨r, hr, hrep⟩ := aLen_sound (ty := ty) (h.ev (hl x (by simp [Op.operands, Call.operands]))) hp w
      exact ⟨r, by simp [resolve, invoke, builtin, hr], hrep⟩
    · cases hp
  · cases hp

theorem aNilTest_sound {op : BinOp} {t : TypeId} {xo yo : Operand} {x y : PV} {u v : Value} (hx : Rep G x u) (hy : Rep G y v) (hne : aNilTest P t x y ≠ []) (hyc : (yo matches .const _) = true) (hop : op = .eql ∨ op = .neq) (w : World) :
    ∃ b ∈ aNilTest P t x y, (do eqGuard op t xo yo u v; binOp op t u v : Sem Value).run P w = .ok (.bool (if op = .eql then b else !b)) w := by
  have fin : ∀ b, b ∈ aNilTest P t x y → (eqGuard op t xo yo u v).run P w = .ok () w → (∀ d, (Op.equalIn (d + 1) t u v).run P w = .ok b w) →
      ((∀ op', op' = .eql ∨ op' = .neq → binOp op' t u v = if op' = .eql then (do pure (.bool (← Op.equal t u v))) else (do pure (.bool (!(← Op.equal t u v)))))) →
      ∃ b ∈ aNilTest P t x y, (do eqGuard op t xo yo u v; binOp op t u v : Sem Value).run P w = .ok (.bool (if op = .eql then b else !b)) w := by
    intro b hb hg he0 hbin
    have he : (Op.equal t u v).run P w = .ok b w := he0 9999
    refine ⟨b, hb, ?_⟩
    rw [hbin op hop]
    rcases hop with rfl | rfl <;> simp [hg, he]
  have key := hne
  unfold aNilTest at key
  split at key <;> rename_i hu
  case h_12 => exact absurd rfl key
  · cases hx; cases hy
    exact fin true (by simp [aNilTest, hu]) (by simp [eqGuard_at_slice]) (fun d => by simp only [Op.equalIn, Sem.run_bind, run_underlying hu, Result.andThen_ok] <;> rfl) (fun op' h => by rcases h with rfl | rfl <;> simp [binOp])
  · cases hy
    cases hx with
    | slice => exact fin false (by simp [aNilTest, hu]) (by simp [eqGuard_at_slice]) (fun d => by simp only [Op.equalIn, Sem.run_bind, run_underlying hu, Result.andThen_ok] <;> rfl) (fun op' h => by rcases h with rfl | rfl <;> simp [binOp])
    | emptySlice => exact fin false (by simp [aNilTest, hu]) (by simp [eqGuard_at_slice]) (fun d => by simp only [Op.equalIn, Sem.run_bind, run_underlying hu, Result.andThen_ok] <;> rfl) (fun op' h => by rcases h with rfl | rfl <;> simp [binOp])
    | nilSlice => exact fin true (by simp [aNilTest, hu]) (by simp [eqGuard_at_slice]) (fun d => by simp only [Op.equalIn, Sem.run_bind, run_underlying hu, Result.andThen_ok] <;> rfl) (fun op' h => by rcases h with rfl | rfl <;> simp [binOp])
  · cases hy
    cases hx with
    | slice => exact fin false (by simp [aNilTest, hu]) (by simp [eqGuard_at_slice]) (fun d => by simp only [Op.equalIn, Sem.run_bind, run_underlying hu, Result.andThen_ok] <;> rfl) (fun op' h => by rcases h with rfl | rfl <;> simp [binOp])
  · cases hy
    cases hx with
    | msl => exact fin false (by simp [aNilTest, hu]) (by simp [eqGuard_at_slice]) (fun d => by simp only [Op.equalIn, Sem.run_bind, run_underlying hu, Result.andThen_ok] <;> rfl) (fun op' h => by rcases h with rfl | rfl <;> simp [binOp])
  · cases hx; cases hy
    exact fin true (by simp [aNilTest, hu]) (by simp [eqGuard_at_pointer]) (fun d => by simp only [Op.equalIn, Sem.run_bind, run_underlying hu, Result.andThen_ok] <;> rfl) (fun op' h => by rcases h with rfl | rfl <;> simp [binOp])
  · cases hy
    cases hx with
    | ptr => exact fin false (by simp [aNilTest, hu]) (by simp [eqGuard_at_pointer]) (fun d => by simp only [Op.equalIn, Sem.run_bind, run_underlying hu, Result.andThen_ok] <;> rfl) (fun op' h => by rcases h with rfl | rfl <;> simp [binOp])
  · cases hy
    cases hx with
    | rptr => exact fin false (by simp [aNilTest, hu]) (by simp [eqGuard_at_pointer]) (fun d => by simp only [Op.equalIn, Sem.run_bind, run_underlying hu, Result.andThen_ok] <;> rfl) (fun op' h => by rcases h with rfl | rfl <;> simp [binOp])
  · cases hx; cases hy
    exact fin true (by simp [aNilTest, hu]) (by simp [eqGuard_at_nilFunc]) (fun d => by simp only [Op.equalIn, Sem.run_bind, run_underlying hu, Result.andThen_ok] <;> rfl) (fun op' h => by rcases h with rfl | rfl <;> simp [binOp])
  · cases hy
    cases hx with
    | func => exact fin false (by simp [aNilTest, hu]) (by simp [eqGuard_at_func]) (fun d => by simp only [Op.equalIn, Sem.run_bind, run_underlying hu, Result.andThen_ok] <;> rfl) (fun op' h => by rcases h with rfl | rfl <;> simp [binOp])
  · cases hx; cases hy
    refine fin true (by simp [aNilTest, hu]) ?_ (fun d => by simp only [Op.equalIn, Sem.run_bind, run_underlying hu, Result.andThen_ok] <;> rfl) (fun op' h => by rcases h with rfl | rfl <;> simp [binOp])
    cases yo <;> simp at hyc
    rcases hop with rfl | rfl <;> cases xo <;> rfl
  · cases hy
    cases hx with
    | iface => exact fin false (by simp [aNilTest, hu]) (by simp [eqGuard_at_iface]) (fun d => by simp only [Op.equalIn, Sem.run_bind, run_underlying hu, Result.andThen_ok] <;> rfl) (fun op' h => by rcases h with rfl | rfl <;> simp [binOp])

end
end Go.Abs
