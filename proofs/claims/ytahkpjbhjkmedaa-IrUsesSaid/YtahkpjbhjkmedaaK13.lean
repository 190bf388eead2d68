/- The abstract layer, part 13: code, and what a function's call owes. -/
import Derived.Test.YtahkpjbhjkmedaaK12
namespace Go.Abs
set_option autoImplicit false

def Exit.fine : Exit → Prop
  | .panic _ | .outgrown => False
  | _ => True

def PostOf (n : Nat) (G : Gh) (Q : Exit → AF → AS → Prop) (e : Exit) (a : Act) (w : World) : Prop :=
  Exit.fine e ∧ ∃ G' F' H', G.le G' ∧ Rel G' H' w ∧ RepF n G' F' a ∧ Q e F' H'

structure Gh.Dom (G : Gh) (b : Nat) : Prop where
  next : G.next ≤ b
  view : ∀ id vl x, G.view id vl = some x → id < G.next
  mview : ∀ id x, G.mview id = some x → id < G.next

/-- Code, from an abstract frame and memory. n: the frame's slots; b: the next number when the function began. -/
def T (P : Program) (n b : Nat) (c : Code) (F : AF) (H : AS) (Q : Exit → AF → AS → Prop) : Prop :=
  ∀ (G0 G : Gh) (w : World) (a : Act), G0.Dom b → G0.le G → Rel G H w → RepF n G F a → c.wp P (PostOf n G0 Q) a w

section
variable {P : Program} {n b : Nat} {F : AF} {H : AS} {Q : Exit → AF → AS → Prop}

theorem PostOf.mono {G : Gh} {Q Q' : Exit → AF → AS → Prop} (hq : ∀ e F H, Exit.fine e → Q e F H → Q' e F H) {e : Exit} {a : Act} {w : World} (h : PostOf n G Q e a w) : PostOf n G Q' e a w :=
  let ⟨f, G2, F2, H2, l, r, rf, q⟩ := h
  ⟨f, G2, F2, H2, l, r, rf, hq _ _ _ f q⟩

theorem T.mono {c : Code} {Q' : Exit → AF → AS → Prop} (h : T P n b c F H Q) (hq : ∀ e F H, Exit.fine e → Q e F H → Q' e F H) : T P n b c F H Q' :=
  fun G0 G w a hd hle hr hF => wp_mono (h G0 G w a hd hle hr hF) fun _ _ _ hp => hp.mono hq

theorem T_skip (h : Q .normal F H) : T P n b .skip F H Q := fun _ G _ _ _ hle hr hF => wp_skip ⟨trivial, G, F, H, hle, hr, hF, h⟩
theorem T_ret (h : Q .ret F H) : T P n b .ret F H Q := fun _ G _ _ _ hle hr hF => wp_ret ⟨trivial, G, F, H, hle, hr, hF, h⟩
theorem T_exit {id : Nat} (h : Q (.exit id) F H) : T P n b (.exit id) F H Q := fun _ G _ _ _ hle hr hF => wp_exit ⟨trivial, G, F, H, hle, hr, hF, h⟩

theorem T_region {id : Nat} {ops : Array Oper} (hok : regionOk n ops = true) (h : aList P ops ops.toList F H (Q .normal)) : T P n b (.region id ops false) F H Q := fun G0 G w a _ hle0 hr hF => by
  refine wp_region ?_
  have := aList_sound (P := P) hok (Q := PostOf n G0 Q) ops.toList 0 (fun i => by simp) hr hF h (fun G' F' H' a' w' hle hr' hF' hq => ⟨trivial, G', F', H', hle0.trans hle, hr', hF', hq⟩)
  rwa [show List.range' 0 ops.toList.length = List.range ops.size by simp [List.range_eq_range']] at this

def thenT (P : Program) (n b : Nat) (y : Code) (Q : Exit → AF → AS → Prop) : Exit → AF → AS → Prop
  | .normal, F, H => T P n b y F H Q
  | e, F, H => Q e F H

@[simp] theorem thenT_normal (y : Code) (F : AF) (H : AS) : thenT P n b y Q .normal F H = T P n b y F H Q := rfl
@[simp] theorem thenT_ret (y : Code) (F : AF) (H : AS) : thenT P n b y Q .ret F H = Q .ret F H := rfl
@[simp] theorem thenT_exit (y : Code) (id : Nat) (F : AF) (H : AS) : thenT P n b y Q (.exit id) F H = Q (.exit id) F H := rfl

theorem T_seq {x y : Code} (h : T P n b x F H (thenT P n b y Q)) : T P n b (.seq x y) F H Q := fun G0 G w a hd hle hr hF => by
  refine wp_seq (wp_mono (h G0 G w a hd hle hr hF) ?_)
  rintro e a' w' ⟨hf, G', F', H', hle', hr', hF', hq⟩
  cases e with
  | normal => exact hq G0 G' w' a' hd hle' hr' hF'
  | exit id => exact ⟨hf, G', F', H', hle', hr', hF', hq⟩
  | goto l => exact ⟨hf, G', F', H', hle', hr', hF', hq⟩
  | ret => exact ⟨hf, G', F', H', hle', hr', hF', hq⟩
  | panic c => exact hf.elim
  | outgrown => exact hf.elim

theorem T_cond {c : Operand} {x y : Code} {t : Bool} (hc : F.ev c = .val (.bool t)) (ht : t = true → T P n b x F H Q) (hf : t = false → T P n b y F H Q) : T P n b (.cond c x y) F H Q := fun G0 G w a hd hle hr hF => by
  have hev : a.eval c = .bool t := by
    cases c with
    | tmp s => exact rep_val (hc ▸ hF.ev (x := .tmp s) rfl)
    | const v =>
      cases v with
      | bool b' => have : b' = t := by simpa using hc
                   subst this; rfl
      | _ => simp [AF.ev, PV.lit] at hc
    | global g => simp at hc
    | func f => simp at hc
  exact wp_cond_split hev (fun e => ht e G0 G w a hd hle hr hF) (fun e => hf e G0 G w a hd hle hr hF)

def blockT (id : Nat) (Q : Exit → AF → AS → Prop) : Exit → AF → AS → Prop
  | .exit id', F, H => if id' = id then Q .normal F H else Q (.exit id') F H
  | e, F, H => Q e F H

@[simp] theorem blockT_normal (id : Nat) (F : AF) (H : AS) : blockT id Q .normal F H = Q .normal F H := rfl
@[simp] theorem blockT_ret (id : Nat) (F : AF) (H : AS) : blockT id Q .ret F H = Q .ret F H := rfl
@[simp] theorem blockT_exit (id id' : Nat) (F : AF) (H : AS) : blockT id Q (.exit id') F H = if id' = id then Q .normal F H else Q (.exit id') F H := rfl

theorem T_block {id : Nat} {c : Code} (h : T P n b c F H (blockT id Q)) : T P n b (.block id c) F H Q := fun G0 G w a hd hle hr hF => by
  refine wp_block (wp_mono (h G0 G w a hd hle hr hF) ?_)
  rintro e a' w' ⟨hf, G', F', H', hle', hr', hF', hq⟩
  cases e with
  | normal => exact ⟨hf, G', F', H', hle', hr', hF', hq⟩
  | exit id' =>
    simp only [Exit.inBlock]
    simp only [blockT_exit] at hq
    split
    · rename_i e; rw [if_pos e] at hq; exact ⟨trivial, G', F', H', hle', hr', hF', hq⟩
    · rename_i e; rw [if_neg e] at hq; exact ⟨trivial, G', F', H', hle', hr', hF', hq⟩
  | goto l => exact ⟨hf, G', F', H', hle', hr', hF', hq⟩
  | ret => exact ⟨hf, G', F', H', hle', hr', hF', hq⟩
  | panic c => exact hf.elim
  | outgrown => exact hf.elim

theorem exists_least {p : Nat → Prop} : ∀ k, p k → ∃ m, p m ∧ ∀ j, p j → m ≤ j := by
  intro k
  induction k using Nat.strongRecOn with
  | _ k ih =>
    intro hk
    by_cases h : ∃ j, j < k ∧ p j
    · obtain ⟨j, hj, hp⟩ := h; exact ih j hj hp
    · exact ⟨k, hk, fun j hj => Nat.le_of_not_lt fun hlt => h ⟨j, hlt, hj⟩⟩

def loopT (I : Nat → AF → AS → Prop) (k : Nat) (Q : Exit → AF → AS → Prop) : Exit → AF → AS → Prop
  | .normal, F, H => ∃ k', k' < k ∧ I k' F H
  | e, F, H => Q e F H

@[simp] theorem loopT_normal (I : Nat → AF → AS → Prop) (k : Nat) (F : AF) (H : AS) : loopT I k Q .normal F H = ∃ k', k' < k ∧ I k' F H := rfl
@[simp] theorem loopT_ret (I : Nat → AF → AS → Prop) (k : Nat) (F : AF) (H : AS) : loopT I k Q .ret F H = Q .ret F H := rfl
@[simp] theorem loopT_exit (I : Nat → AF → AS → Prop) (k id : Nat) (F : AF) (H : AS) : loopT I k Q (.exit id) F H = Q (.exit id) F H := rfl

/-- A loop: an invariant with a number that falls. -/
theorem T_loop {c : Code} (I : Nat → AF → AS → Prop) (k : Nat) (h0 : I k F H)
    (hstep : ∀ k F H, I k F H → T P n b c F H (loopT I k Q)) : T P n b (.loop c) F H Q := fun G0 G w a hd hle hr hF => by
  classical
  let J : Nat → Act → World → Prop := fun k a w => ∃ G' F' H', G0.le G' ∧ Rel G' H' w ∧ RepF n G' F' a ∧ I k F' H'
  let μ : Act → World → Nat := fun a w => if h : ∃ k, J k a w then Classical.choose (exists_least (p := fun k => J k a w) _ h.choose_spec) else 0
  have hJ : ∀ {k a w}, J k a w → J (μ a w) a w ∧ μ a w ≤ k := fun {k a w} h => by
    have hex : ∃ k, J k a w := ⟨k, h⟩
    have hs := Classical.choose_spec (exists_least (p := fun k => J k a w) _ hex.choose_spec)
    simp only [μ, dif_pos hex]
    exact ⟨hs.1, hs.2 k h⟩
  refine wp_loop (fun a w => ∃ k, J k a w) μ ⟨k, G, F, H, hle, hr, hF, h0⟩ ?_
  rintro a w ⟨k, hk⟩
  obtain ⟨G1, F1, H1, le1, r1, f1, i1⟩ := (hJ hk).1
  refine wp_mono (hstep _ _ _ i1 G0 G1 w a hd le1 r1 f1) ?_
  rintro e a' w' ⟨hf, G', F', H', hle', hr', hF', hq⟩
  cases e with
  | normal =>
    obtain ⟨k', hlt, hi⟩ := hq
    have hj : J k' a' w' := ⟨G', F', H', hle', hr', hF', hi⟩
    exact ⟨⟨k', hj⟩, Nat.lt_of_le_of_lt (hJ hj).2 hlt⟩
  | exit id => exact ⟨hf, G', F', H', hle', hr', hF', hq⟩
  | goto l => exact ⟨hf, G', F', H', hle', hr', hF', hq⟩
  | ret => exact ⟨hf, G', F', H', hle', hr', hF', hq⟩
  | panic c => exact hf.elim
  | outgrown => exact hf.elim

/-- Memory that was there is there still. -/
structure AS.Ext (H H' : AS) : Prop where
  next : H.next ≤ H'.next
  box : ∀ id, id < H.next → H'.box id = H.box id
  mp : ∀ id, id < H.next → H'.mp id = H.mp id
  color : H'.color = H.color

theorem AS.Ext.refl (H : AS) : H.Ext H := ⟨Nat.le_refl _, fun _ _ => rfl, fun _ _ => rfl, rfl⟩
theorem AS.Ext.trans {H1 H2 H3 : AS} (h : H1.Ext H2) (h' : H2.Ext H3) : H1.Ext H3 :=
  ⟨Nat.le_trans h.next h'.next, fun id hi => by rw [h'.box id (Nat.lt_of_lt_of_le hi h.next), h.box id hi], fun id hi => by rw [h'.mp id (Nat.lt_of_lt_of_le hi h.next), h.mp id hi], by rw [h'.color, h.color]⟩
theorem AS.Ext.setBox {H1 H2 : AS} {id : Nat} {rows : List (List PV)} (hi : H1.next ≤ id) (h : H1.Ext H2) : H1.Ext (H2.setBox id rows) :=
  ⟨h.next, fun i hlt => by rw [setBox_box, if_neg (by omega)]; exact h.box i hlt, h.mp, h.color⟩
theorem AS.Ext.kill {H1 H2 : AS} {id : Nat} (hi : H1.next ≤ id) (h : H1.Ext H2) : H1.Ext (H2.kill id) :=
  ⟨h.next, fun i hlt => by rw [kill_box, if_neg (by omega)]; exact h.box i hlt, h.mp, h.color⟩
theorem AS.Ext.bump {H1 H2 : AS} {m : Nat} (h : H1.Ext H2) : H1.Ext (H2.bump m) := ⟨by have := h.next; simp; omega, h.box, h.mp, h.color⟩
theorem AS.Ext.setMap {H1 H2 : AS} {id : Nat} {es : List (Value × PV)} (hi : H1.next ≤ id) (h : H1.Ext H2) : H1.Ext (H2.setMap id es) :=
  ⟨h.next, h.box, fun i hlt => by rw [setMap_mp, if_neg (by omega)]; exact h.mp i hlt, h.color⟩

theorem Rel.dom' {G : Gh} {H : AS} {w : World} (h : Rel G H w) : G.Dom H.next := ⟨by rw [h.next]; exact Nat.le_refl _, fun i l x e => h.dom i l x e, fun i x e => h.mdom i x e⟩

/-- Weaker: a frame that forgets, a memory that forgets. -/
theorem T_forget {c : Code} {F0 : AF} {H0 : AS} (h : T P n b c F0 H0 Q) (hwf : WF H0) (hb : b ≤ H0.next) (hext : H0.Ext H) (hF : ∀ t, F0 t = .junk ∨ (F0 t = F t ∧ Below H0.next (F t))) : T P n b c F H Q := fun G0 G w a hd hle hr hFr => by
  obtain ⟨hle', hr'⟩ := hr.forget hle (H1 := H0) (Nat.le_trans hd.next hb) (fun id rows e => by rw [hext.box id (hwf.box _ _ e).1]; exact e) (fun id es e => by rw [hext.mp id (hwf.mp _ _ e).1]; exact e) hwf hd.view hd.mview
  refine h G0 _ w a hd hle' hr' ⟨hFr.defers, hFr.size, fun t => ?_⟩
  rcases hF t with e | ⟨e, hbel⟩
  · rw [e]; exact .junk _
  · rw [e]; exact (hFr.rep t).cutAt hbel

/-- What a function hands back. -/
def aResults (P : Program) (F : AF) (H : AS) : List ResultVar → Option (List PV)
  | [] => some []
  | .tmp t :: rs => (aResults P F H rs).map (F t :: ·)
  | .cell t ty :: rs => match aload P H ty (F t), aResults P F H rs with
    | some q, some qs => some (q :: qs)
    | _, _ => none

def packed : List PV → PV
  | [p] => p
  | ps => .tuple ps

def frame0 (args : List PV) : AF := fun t => (args[t]?).getD (.val undef)

theorem frame0_rep {G : Gh} {args : List PV} {vs : List Value} (h : RepAll G args vs) (m : Nat) : RepF (vs.length + m) G (frame0 args) { tmps := vs.toArray ++ Array.replicate m undef, defers := [] } := by
  obtain ⟨hl, hg⟩ := h.get
  refine ⟨rfl, by simp, fun t => ?_⟩
  by_cases ht : t < vs.length
  · have ht' : t < args.length := by omega
    have := hg t args[t] vs[t] (List.getElem?_eq_getElem ht') (List.getElem?_eq_getElem ht)
    simp only [frame0, List.getElem?_eq_getElem ht', Option.getD_some]
    rw [show (vs.toArray ++ Array.replicate m undef).getD t undef = vs[t] by
      rw [Array.getD_eq_getD_getElem?, Array.getElem?_append_left (by simpa using ht)]; simp [ht]]
    exact this
  · have ht' : ¬ t < args.length := by omega
    simp only [frame0, List.getElem?_eq_none (Nat.le_of_not_lt ht'), Option.getD_none]
    rw [show (vs.toArray ++ Array.replicate m undef).getD t undef = undef by
      rw [Array.getD_eq_getD_getElem?, Array.getElem?_append_right (by simp; omega)]
      rw [Array.getElem?_replicate]; split <;> rfl]
    exact .val _

def resOf (tmps : Array Value) : ResultVar → Sem Value
  | .tmp t => pure (tmps.getD t undef)
  | .cell c t => do loadVar t (← asAddr (tmps.getD c undef))

theorem aResults_sound {G : Gh} {w : World} (hr : Rel G H w) {a : Act} (hF : RepF n G F a) : ∀ (rs : List ResultVar) (qs : List PV), aResults P F H rs = some qs →
    ∃ vs : List Value, (rs.mapM (resOf a.tmps)).run P w = .ok vs w ∧ RepAll G qs vs
  | [], qs, h => by simp [aResults] at h; subst h; exact ⟨[], rfl, trivial⟩
  | .tmp t :: rs, qs, h => by
    simp only [aResults, Option.map_eq_some_iff] at h
    obtain ⟨qs', hq, rfl⟩ := h
    obtain ⟨vs, hrun, hall⟩ := aResults_sound hr hF rs qs' hq
    refine ⟨a.tmps.getD t undef :: vs, ?_, hF.rep t, hall⟩
    rw [List.mapM_cons]
    simp only [resOf, Sem.run_bind, Sem.run_pure, Result.andThen_ok, hrun]
  | .cell c t :: rs, qs, h => by
    unfold aResults at h
    split at h
    · rename_i q qs' hq hqs
      simp at h; subst h
      obtain ⟨vs, hrun, hall⟩ := aResults_sound hr hF rs qs' hqs
      obtain ⟨v, hv, hrep⟩ := aload_sound hr (hF.rep c) hq
      refine ⟨v :: vs, ?_, hrep, hall⟩
      rw [List.mapM_cons]
      have haddr : ∀ u, Rep G (F c) u → ∃ ad, u = .pointer (some ad) := by
        intro u hu
        unfold aload at hq
        split at hq
        · rename_i e; rw [e] at hu; cases hu; exact ⟨_, rfl⟩
        · rename_i e; rw [e] at hu; cases hu; exact ⟨_, rfl⟩
        · cases hq
      obtain ⟨ad, had⟩ := haddr _ (hF.rep c)
      simp only [resOf]
      rw [had] at hv ⊢
      simp only [Instr.loadAt, Instr.sureAddr, Sem.run_bind, Sem.run_pure, Result.andThen_ok] at hv
      simp only [Sem.run_bind, asAddr, Sem.run_pure, Result.andThen_ok, hv, hrun]
    · cases h

theorem frzV_sound {G : Gh} {w : World} (h : Rel G H w) {p : PV} {v : Value} (hp : Rep G p v) : ∃ G', G.le G' ∧ Rel G' (frzV H p).2 w ∧ Rep G' (frzV H p).1 v := by
  cases p with
  | agg cs =>
    cases hp with
    | agg h1 h2 h3 =>
      rename_i vs
      obtain ⟨G', hle, hr, hl, hall⟩ := frzL_sound cs h (vs := fun j => (vs[j]?).getD undef) (fun j p hp => by
        have hlt : j < vs.size := by rw [← h1]; exact (List.getElem?_eq_some_iff.1 hp).1
        have := h3 j p vs[j] hp (by simp [hlt])
        simpa [hlt] using this)
      refine ⟨G', hle, hr, .agg (by rw [hl]; exact h1) h2 fun j p v hp hv => ?_⟩
      have := hall j p hp
      simp only [hv, Option.getD_some] at this; exact this
  | _ => exact frz_sound h hp

theorem frzVs_sound {w : World} : ∀ (ps : List PV) {G : Gh} {H : AS} (_ : Rel G H w) {vs : List Value} (_ : RepAll G ps vs), ∃ G', G.le G' ∧ Rel G' (frzVs H ps).2 w ∧ RepAll G' (frzVs H ps).1 vs
  | [], G, H, h, vs, hl => ⟨G, .refl G, h, by cases vs with | nil => trivial | cons => exact hl.elim⟩
  | p :: ps, G, H, h, [], hl => hl.elim
  | p :: ps, G, H, h, v :: vs, hl => by
    obtain ⟨G1, le1, r1, p1⟩ := frzV_sound h hl.1
    obtain ⟨G2, le2, r2, p2⟩ := frzVs_sound ps r1 (hl.2.mono le1)
    exact ⟨G2, le1.trans le2, r2, p1.mono le2, p2⟩

theorem packed_rep {G : Gh} : ∀ {ps : List PV} {vs : List Value}, RepAll G ps vs → Rep G (packed ps) (if h : vs.length = 1 then vs[0]'(by omega) else .tuple vs.toArray)
  | [p], [v], h => h.1
  | [], [], _ => .tuple (by simp) (fun j p v hp => by simp at hp)
  | p :: q :: ps, v :: u :: vs, h => by
    obtain ⟨h1, h2⟩ := h.get
    exact .tuple (by simpa using h1) (fun j p v hp hv => h2 j p v hp (by simpa using hv))
  | [], _ :: _, h => h.elim
  | _ :: _, [], h => h.elim
  | [_], _ :: _ :: _, h => h.2.elim
  | _ :: _ :: _, [_], h => h.2.elim

/-- What the body owes: results, frozen; what it made, forgotten as far as wanted. -/
def Owes (P : Program) (fn : Func) (H : AS) (k : PV → AS → Prop) (e : Exit) (F' : AF) (H' : AS) : Prop :=
  (e = .normal ∨ e = .ret) ∧ match aResults P F' H' fn.results.toList with
    | some rs => ∃ H1, H.next ≤ H1.next ∧ H1.Ext (frzVs H' rs).2 ∧ WF H1 ∧ (∀ p ∈ (frzVs H' rs).1, Below H1.next p) ∧ k (packed (frzVs H' rs).1) H1
    | none => False

theorem below_packed {m : Nat} : ∀ {ps : List PV}, (∀ p ∈ ps, Below m p) → Below m (packed ps)
  | [p], h => h p (by simp)
  | [], h => .tuple h
  | _ :: _ :: _, h => .tuple h

theorem ACalls_intro {f : FuncId} {fn : Func} {c : Code} {args : List PV} {k : PV → AS → Prop} (hf : P.funcs[f]? = some fn) (hb : fn.body = some c) (hname : (fn.name == "runtime.NumGoroutine") = false) (hargs : args.length ≤ fn.ntmps)
    (h : WF H → (∀ p ∈ args, Below H.next p) → T P fn.ntmps H.next c (frame0 args) H (Owes P fn H k)) : ACalls P f args H k := by
  refine ⟨⟨fn, hf, by rw [hb]; rfl, hname⟩, fun G w vs hr hall => ?_⟩
  have hlen := hall.get.1
  have hbel : ∀ p ∈ args, Below H.next p := fun p hp => by
    obtain ⟨j, hj⟩ := List.getElem?_of_mem hp
    have hlt : j < vs.length := by rw [← hlen]; exact (List.getElem?_eq_some_iff.1 hj).1
    exact (hall.get.2 j p vs[j] hj (List.getElem?_eq_getElem hlt)).isBelow (fun i l x e => by rw [← hr.next]; exact hr.dom i l x e) (fun i x e => by rw [← hr.next]; exact hr.mdom i x e)
  have hT := h hr.wf hbel G G w _ hr.dom' (.refl G) hr (by
    have := frame0_rep hall (fn.ntmps - vs.length)
    rwa [show vs.length + (fn.ntmps - vs.length) = fn.ntmps by omega] at this)
  refine calls_of_wp hf hb ?_
  rw [show vs.toArray.size = vs.length by simp]
  refine wp_mono hT ?_
  rintro e a' w' ⟨hfine, G', F', H', hle, hr', hF', hex, howe⟩
  split at howe
  · rename_i rs hrs
    obtain ⟨H1, hn1, hext, hwf, hbel1, hk⟩ := howe
    obtain ⟨us, hrun, hall'⟩ := aResults_sound hr' hF' _ _ hrs
    obtain ⟨G2, le2, r2, p2⟩ := frzVs_sound rs hr' hall'
    obtain ⟨le3, r3⟩ := r2.forget (hle.trans le2) (H1 := H1) (by rw [hr.next]; exact hn1) (fun id rows e => by rw [hext.box id (hwf.box _ _ e).1]; exact e) (fun id es e => by rw [hext.mp id (hwf.mp _ _ e).1]; exact e) hwf (fun i l x e => hr.dom i l x e) (fun i x e => hr.mdom i x e)
    have hrep := (packed_rep p2).cutAt (below_packed hbel1)
    have hres : (results fn a'.tmps).run P w' = .ok (if h : us.length = 1 then us[0]'(by omega) else .tuple us.toArray) w' := by
      unfold results
      rw [Array.mapM_eq_mapM_toList]
      show Sem.run P (Bind.bind (Bind.bind (fn.results.toList.mapM (resOf a'.tmps)) (pure ∘ List.toArray)) _) w' = _
      simp only [Sem.run_bind, hrun, Result.andThen_ok, Function.comp, Sem.run_pure]
      simp
    have fin : a'.defers = [] ∧ ∃ v, (results fn a'.tmps).run P w' = .ok v w' ∧ ∃ v' G' q H', Ending.returned v = .returned v' ∧ G.le G' ∧ Rel G' H' w' ∧ Rep G' q v' ∧ k q H' :=
      ⟨hF'.defers, _, hres, _, _, _, _, rfl, le3, r3, hrep, hk⟩
    rcases hex with rfl | rfl
    · exact fin
    · exact fin
  · exact howe.elim

end
end Go.Abs
