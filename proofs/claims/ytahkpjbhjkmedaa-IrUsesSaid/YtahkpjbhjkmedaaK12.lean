/- The abstract layer, part 12: operations one behind another; code; calls. -/
import Derived.Test.YtahkpjbhjkmedaaK11
namespace Go.Abs
set_option autoImplicit false

section
variable {P : Program} {G : Gh} {H : AS} {w : World} {n : Nat} {F : AF} {a : Act}

/-- Where an operation leads, whatever the ghost becomes. -/
def Leads (G : Gh) (o : Oper) (a : Act) (k : PV → AS → Prop) (K : Act → World → Prop) : Prop :=
  ∀ G' q H' v w', G.le G' → Rel G' H' w' → Rep G' q v → k q H' → K (a.put o.dst v) w'

theorem wp_value {o : Oper} {Q : Exit → Act → World → Prop} {K : Act → World → Prop} {v : Value} {w' : World} (h : (execOp a.eval o).run P w = .ok (.value v) w') (hk : K (a.put o.dst v) w') : o.wp P a w K Q := by
  unfold Oper.wp; rw [h]; exact hk

theorem wp_lift {o : Oper} {Q : Exit → Act → World → Prop} {K : Act → World → Prop} {s : Sem Value} (he : execOp a.eval o = (do pure (.value (← s)))) {v : Value} {w' : World} (h : s.run P w = .ok v w') (hk : K (a.put o.dst v) w') : o.wp P a w K Q :=
  wp_value (by rw [he]; simp [h]) hk

theorem aOp_sound (hr : Rel G H w) (hF : RepF n G F a) {o : Oper} (hl : ∀ x ∈ o.op.operands, litOk x = true) {k : PV → AS → Prop} (h : aOp P F H o k) {Q : Exit → Act → World → Prop} {K : Act → World → Prop} (hK : Leads G o a k K) : o.wp P a w K Q := by
  have pure_ : ∀ q, aPure P F o = some q → k q H → o.wp P a w K Q := fun q hq hk => by
    obtain ⟨v, e, hrep⟩ := aPure_sound hF hl hq w
    exact wp_value e (hK G q H v w (.refl G) hr hrep hk)
  obtain ⟨dst, op, ty, pos, after, guard⟩ := o
  unfold aOp at h
  dsimp only at h hl
  split at h
  · rename_i t
    split at h
    · rename_i q H' e
      obtain ⟨v, w', G', hrun, hle, hrel, hrep⟩ := aalloc_sound hr e
      exact wp_lift rfl hrun (hK G' q H' v w' hle hrel hrep h)
    · exact h.elim
  · rename_i t x
    split at h
    · rename_i q H' e
      obtain ⟨v, w', G', hrun, hle, hrel, hrep⟩ := abox_sound (P := P) (t := t) hr (hF.ev (hl x (by simp [Op.operands]))) e
      exact wp_lift rfl hrun (hK G' q H' v w' hle hrel hrep h)
    · exact h.elim
  · rename_i t len parts
    split at h
    · rename_i q H' e
      obtain ⟨p1, p2⟩ := hF.parts parts (fun x hx => hl x.2 (by
        simp only [Op.operands, List.mem_toArray, List.mem_map]
        exact ⟨x, hx, rfl⟩))
      obtain ⟨v, w', G', hrun, hle, hrel, hrep⟩ := abuildSlice_sound (P := P) (t := t) (len := len) (parts := parts.toList.map fun x => (x.1, F.ev x.2)) (vparts := parts.toList.map fun x => (x.1, a.eval x.2)) (q := q) (H' := H') hr p1 p2 e
      have e2 : (parts.toList.map fun x => (x.1, a.eval x.2)).toArray = parts.map fun x => (x.1, a.eval x.2) := by apply Array.ext'; simp
      rw [e2] at hrun
      exact wp_lift rfl hrun (hK G' q H' v w' hle hrel hrep h)
    · exact h.elim
  · rename_i t x
    split at h
    · rename_i q e
      obtain ⟨v, hrun, hrep⟩ := aload_sound hr (hF.ev (hl x (by simp [Op.operands]))) e
      exact wp_lift rfl hrun (hK G q H v w (.refl G) hr hrep h)
    · exact h.elim
  · rename_i t x y
    split at h
    · rename_i H' e
      obtain ⟨w', hrun, hrel⟩ := astore_sound hr (hF.ev (hl x (by simp [Op.operands]))) (hF.ev (hl y (by simp [Op.operands]))) e
      unfold Oper.wp
      have : (execOp a.eval { dst := dst, op := Op.store t x y, type := ty, pos := pos, after := after, guard := guard }).run P w = .ok .skip w' := by simp [execOp, hrun]
      rw [this]
      exact hK G _ H' _ w' (.refl G) hrel (.val _) h
    · exact h.elim
  · rename_i f args tys
    split at h
    · rename_i g caps hf
      have hfv := hF.ev (hl f (by simp [Op.operands, Call.operands]))
      rw [hf] at hfv
      generalize hu : a.eval f = u at hfv
      cases hfv with
      | func h1 h2 =>
        rename_i vs
        obtain ⟨⟨fn, g1, g2, g3⟩, hcall⟩ := h
        have hall := hF.all args (fun x hx => hl x (by simp [Op.operands, Call.operands]; exact .inr (by simpa using hx)))
        have hcaps : RepAll G caps vs.toList := RepAll.of_get (by simpa using h1) (fun j p v hp hv => h2 j p v hp (by simpa using hv))
        have hc := hcall G w _ hr (hall.append hcaps)
        have hrun : (execOp a.eval { dst := dst, op := Op.call { callee := Callee.value f, args := args, argTypes := tys }, type := ty, pos := pos, after := after, guard := guard }).run P w = .ok (.enter g (args.map a.eval ++ vs)) w := by
          simp only [execOp, resolve, hu, Deferred.ofValue, Sem.run_bind, Sem.run_pure, Result.andThen_ok, invoke, callFunc, run_program, g1, g3, Bool.false_eq_true, if_false]
          cases hb : fn.body with
          | none => rw [hb] at g2; cases g2
          | some c => simp
        unfold Oper.wp
        rw [hrun]
        have e : (args.toList.map a.eval ++ vs.toList).toArray = args.map a.eval ++ vs := by apply Array.ext'; simp
        rw [e] at hc
        refine hc.mono ?_
        rintro e' w' ⟨v, G', q, H', rfl, hle, hrel, hrep, hq⟩
        exact hK G' q H' v w' hle hrel hrep hq
    · exact h.elim
  · rename_i args tys
    split at h
    · rename_i x y s t e1 e2
      have h1 : args = #[x, y] := by apply Array.ext'; simpa using e1
      have h2 : tys = #[s, t] := by apply Array.ext'; simpa using e2
      subst h1; subst h2
      obtain ⟨v, w', G', q, H', hrun, hle, hrel, hrep, hq⟩ := aappend_sound (ty := ty) hr (hF.ev (hl x (by simp [Op.operands, Call.operands]))) (hF.ev (hl y (by simp [Op.operands, Call.operands]))) h
      refine wp_value ?_ (hK G' q H' v w' hle hrel hrep hq)
      simp [execOp, resolve, invoke, builtin, hrun]
    · exact h.elim
  · rename_i op t x y yt
    split at h
    · rename_i q e; exact pure_ q e h
    · rename_i e0
      have hx := hF.ev (hl x (by simp [Op.operands]))
      have hy := hF.ev (hl y (by simp [Op.operands]))
      split at h
      · rename_i b bs e
        obtain ⟨hyc, hall⟩ := h
        obtain ⟨r, hr1, hrun⟩ := aNilTest_sound (P := P) (op := .eql) (xo := x) hx hy (by rw [e]; simp) hyc (.inl rfl) w
        rw [e] at hr1
        exact wp_lift rfl hrun (hK G _ H _ w (.refl G) hr (.val _) (hall r hr1))
      · rename_i b bs e
        obtain ⟨hyc, hall⟩ := h
        obtain ⟨r, hr1, hrun⟩ := aNilTest_sound (P := P) (op := .neq) (xo := x) hx hy (by rw [e]; simp) hyc (.inr rfl) w
        rw [e] at hr1
        exact wp_lift rfl hrun (hK G _ H _ w (.refl G) hr (.val _) (hall r hr1))
      · exact h.elim
  · split at h
    · rename_i q e; exact pure_ q e h
    · exact h.elim

/-- Operations one behind another, in the order of the text. -/
def aList (P : Program) (ops : Array Oper) : List Oper → AF → AS → (AF → AS → Prop) → Prop
  | [], F, H, K => K F H
  | o :: rest, F, H, K => match o.guard with
    | none => aOp P F H o fun q H' => aList P ops rest (F.put o.dst q) H' K
    | some (j, want) => match (ops[j]?).bind (·.dst) with
      | some t => match F t with
        | .val (.bool b) => (b = want → aOp P F H o fun q H' => aList P ops rest (F.put o.dst q) H' K) ∧ (b = (!want) → aList P ops rest (F.put o.dst (.val undef)) H K)
        | _ => False
      | none => False

theorem regionOk_spec {ops : Array Oper} (h : regionOk n ops = true) {i : Nat} {o : Oper} (hi : ops[i]? = some o) : (∀ x, o.dst = some x → x < n) ∧ ∀ x ∈ o.op.operands, litOk x = true := by
  unfold regionOk at h
  rw [Array.all_eq_true'] at h
  have := h o (Array.mem_of_getElem? hi)
  rw [Bool.and_eq_true] at this
  refine ⟨fun x hx => ?_, Array.all_eq_true'.1 this.2⟩
  have h1 := this.1; rw [hx] at h1; simpa using h1

theorem yielded_of (hF : RepF n G F a) {ops : Array Oper} {j t : Nat} (hj : (ops[j]?).bind (·.dst) = some t) (ht : t < n) {b : Bool} (hb : F t = .val (.bool b)) : yielded ops a.tmps j = some b := by
  have hr := hF.rep t
  rw [hb] at hr
  have hv := rep_val hr
  have hlt : t < a.tmps.size := by rw [hF.size]; exact ht
  unfold yielded
  rw [hj]
  simp only [Option.bind_some]
  rw [Array.getD_eq_getD_getElem?] at hv
  simp [hlt] at hv ⊢
  rw [hv]

theorem aList_sound {ops : Array Oper} (hok : regionOk n ops = true) {Q : Exit → Act → World → Prop} : ∀ (l : List Oper) (m : Nat), (∀ i, l[i]? = ops[m + i]?) → ∀ {G : Gh} {H : AS} {w : World} {F : AF} {a : Act}, Rel G H w → RepF n G F a →
    ∀ {K : AF → AS → Prop}, aList P ops l F H K → (∀ G' F' H' a' w', G.le G' → Rel G' H' w' → RepF n G' F' a' → K F' H' → Q .normal a' w') → wpOps P ops Q (List.range' m l.length) a w
  | [], m, _, G, H, w, F, a, hr, hF, K, h, hK => by
    simp only [List.length_nil, List.range'_zero, wpOps]
    exact hK G F H a w (.refl G) hr hF h
  | o :: l, m, hl, G, H, w, F, a, hr, hF, K, h, hK => by
    have hi : ops[m]? = some o := by simpa using (hl 0).symm
    obtain ⟨hd, hlit⟩ := regionOk_spec hok hi
    have hl' : ∀ i, l[i]? = ops[m + 1 + i]? := fun i => by have := hl (i + 1); simpa [Nat.add_assoc, Nat.add_comm 1 i] using this
    simp only [List.length_cons, List.range'_succ, wpOps, hi]
    have run : aOp P F H o (fun q H' => aList P ops l (F.put o.dst q) H' K) → o.wp P a w (wpOps P ops Q (List.range' (m + 1) l.length)) Q := fun h =>
      aOp_sound hr hF hlit h fun G' q H' v w' hle hrel hrep hk => aList_sound hok l (m + 1) hl' hrel ((hF.mono hle).put hd hrep) hk fun G'' F' H'' a' w'' hle' => hK G'' F' H'' a' w'' (hle.trans hle')
    have skip : aList P ops l (F.put o.dst (.val undef)) H K → wpOps P ops Q (List.range' (m + 1) l.length) (a.put o.dst undef) w := fun h =>
      aList_sound hok l (m + 1) hl' hr (hF.put hd (.val _)) h hK
    unfold aList at h
    split at h
    · rename_i hg
      have : Region.wanted o (yielded ops a.tmps) = true := by simp [Region.wanted, hg]
      rw [if_pos this]
      exact .inl (run h)
    · rename_i j want hg
      split at h
      · rename_i t hj
        split at h
        · rename_i b hb
          have ht : t < n := by
            cases ho : ops[j]? with
            | none => rw [ho] at hj; cases hj
            | some o' => rw [ho] at hj; exact (regionOk_spec hok ho).1 t hj
          have hy := yielded_of hF hj ht hb
          by_cases e : b = want
          · have : Region.wanted o (yielded ops a.tmps) = true := by simp [Region.wanted, hg, hy, e]
            rw [if_pos this]
            exact .inl (run (h.1 e))
          · have : Region.wanted o (yielded ops a.tmps) = false := by simp [Region.wanted, hg, hy, e]
            rw [this]
            exact skip (h.2 (by cases b <;> cases want <;> simp_all))
        · exact h.elim
      · exact h.elim

end
end Go.Abs
