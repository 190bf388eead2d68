/- The abstract layer, part 14: statements that leave their order open. -/
import Derived.Test.YtahkpjbhjkmedaaK13
namespace Go.Abs
set_option autoImplicit false

section
variable {P : Program} {ops : Array Oper} {F : AF} {H : AS} {n b : Nat} {S : AS → Prop} {J : Nat → AS → AS → Prop}

def aWanted (ops : Array Oper) (F : AF) (o : Oper) : Option Bool :=
  match o.guard with
  | none => some true
  | some (j, want) => match (ops[j]?).bind (·.dst) with
    | some t => match F t with
      | .val (.bool b) => some (b == want)
      | _ => none
    | none => none

def aStep (P : Program) (ops : Array Oper) (i : Nat) (F : AF) (H : AS) (k : AF → AS → Prop) : Prop :=
  match ops[i]? with
  | none => k F H
  | some o => match aWanted ops F o with
    | some true => aOp P F H o fun q H' => k (F.put o.dst q) H'
    | some false => k (F.put o.dst (.val undef)) H
    | none => False

def aAny (P : Program) (ops : Array Oper) (J : Nat → AS → AS → Prop) (K : AF → AS → Prop) : Nat → Array Bool → AF → AS → Prop
  | 0, listed, F, H => Region.ready .any ops listed = [] ∧ K F H
  | fuel + 1, listed, F, H => (Region.ready .any ops listed = [] → K F H) ∧
      ∀ i ∈ Region.ready .any ops listed, aStep P ops i F H fun F' H' => J i H H' ∧ aAny P ops J K fuel (listed.setIfInBounds i true) F' H'

theorem aWanted_sound {G : Gh} {a : Act} (hok : regionOk n ops = true) (hF : RepF n G F a) {o : Oper} {r : Bool} (h : aWanted ops F o = some r) : Region.wanted o (yielded ops a.tmps) = r := by
  unfold aWanted at h
  split at h
  · rename_i hg; simp at h; simp [Region.wanted, hg, h]
  · rename_i j want hg
    split at h
    · rename_i t hj
      split at h
      · rename_i b hb
        have ht : t < n := by
          cases ho : ops[j]? with
          | none => rw [ho] at hj; cases hj
          | some o' => rw [ho] at hj; exact (regionOk_spec hok ho).1 t hj
        have hy := yielded_of hF hj ht hb
        simp at h
        simp [Region.wanted, hg, hy, ← h]
      · cases h
    · cases h

theorem aAny_sound (hok : regionOk n ops = true) {Q : Exit → AF → AS → Prop} {G0 : Gh} : ∀ (fuel : Nat) (listed : Array Bool) {G : Gh} {H : AS} {w : World} {F : AF} {a : Act}, G0.le G → Rel G H w → RepF n G F a →
    aAny P ops J (Q .normal) fuel listed F H → wpAny P .any ops (PostOf n G0 Q) fuel listed a w
  | 0, listed, G, H, w, F, a, hle, hr, hF, h => ⟨h.1, trivial, G, F, H, hle, hr, hF, h.2⟩
  | fuel + 1, listed, G, H, w, F, a, hle, hr, hF, h => by
    refine ⟨fun e => ⟨trivial, G, F, H, hle, hr, hF, h.1 e⟩, fun i hi => ?_⟩
    have hs := h.2 i hi
    unfold aStep at hs
    unfold wpOp
    cases ho : ops[i]? with
    | none => rw [ho] at hs; exact aAny_sound hok fuel _ hle hr hF hs.2
    | some o =>
      rw [ho] at hs
      obtain ⟨hd, hlit⟩ := regionOk_spec hok ho
      dsimp only at hs ⊢
      split at hs
      · rename_i hw
        rw [aWanted_sound hok hF hw]
        refine .inl (aOp_sound hr hF hlit hs ?_)
        exact fun G' q H' v w' hle' hrel hrep hk => aAny_sound hok fuel _ (hle.trans hle') hrel ((hF.mono hle').put hd hrep) hk.2
      · rename_i hw
        rw [aWanted_sound hok hF hw]
        exact aAny_sound hok fuel _ hle hr (hF.put hd (.val _)) hs.2
      · exact hs.elim

theorem aOp_mono {o : Oper} {k k' : PV → AS → Prop} (hk : ∀ q H', k q H' → k' q H') (h : aOp P F H o k) : aOp P F H o k' := by
  unfold aOp at *
  split at h
  all_goals (try split at h)
  all_goals (first
    | exact hk _ _ h
    | exact h.elim
    | exact h.mono hk
    | skip)
  · unfold aappend at *
    split at h
    case h_2 => exact h.elim
    split at h
    case h_2 => exact h.elim
    refine ⟨h.1, ?_⟩
    have h := h.2
    split at h
    case h_2 => exact h.elim
    split at h
    · split at h
      · rename_i h0; rw [if_pos h0]; exact hk _ _ h
      · rename_i h0; rw [if_neg h0]; exact ⟨h.1, hk _ _ h.2⟩
    · split at h
      · exact ⟨h.1, hk _ _ h.2⟩
      · exact h.elim
    · exact h.elim
  · split at h
    · exact ⟨h.1, fun r hr => hk _ _ (h.2 r hr)⟩
    · exact ⟨h.1, fun r hr => hk _ _ (h.2 r hr)⟩
    · exact h.elim

theorem aPure_congr {F F' : AF} (o : Oper) (h : ∀ x ∈ o.op.operands, F.ev x = F'.ev x) : aPure P F o = aPure P F' o := by
  obtain ⟨dst, op, ty, pos, after, guard⟩ := o
  have pairs : ∀ ps : Array (Nat × Operand), (∀ x ∈ ps.toList, F.ev x.2 = F'.ev x.2) → (ps.toList.map fun x => (x.1, F.ev x.2)) = (ps.toList.map fun x => (x.1, F'.ev x.2)) := fun ps hp =>
    List.map_congr_left fun x hx => by rw [hp x hx]
  unfold aPure
  cases op <;> simp only [Op.operands] at h <;> dsimp only
  case build t ps => rw [pairs ps fun x hx => h x.2 (by simp; exact ⟨x.1, by simpa using hx⟩)]
  case makeFunc fn first caps =>
    cases fn <;> simp only []
    rw [List.map_congr_left (l := caps.toList) fun x hx => h x (by simp; exact .inr (by simpa using hx))]
  case slice t x lo hi mx => cases lo <;> cases hi <;> cases mx <;> simp_all
  case call c =>
    obtain ⟨callee, args, tys⟩ := c
    cases callee with
    | builtin bi =>
      cases bi <;> simp only []
      split
      · rename_i x t e1 e2
        have : args = #[x] := by apply Array.ext'; simpa using e1
        subst this
        rw [h x (by simp [Call.operands])]
      · rfl
    | _ => rfl
  all_goals (first | rfl | (simp_all; done))

theorem aOp_congr {F F' : AF} (o : Oper) (h : ∀ x ∈ o.op.operands, F.ev x = F'.ev x) (H : AS) (k : PV → AS → Prop) : aOp P F H o k = aOp P F' H o k := by
  have hp := aPure_congr (P := P) o h
  obtain ⟨dst, op, ty, pos, after, guard⟩ := o
  have pairs : ∀ ps : Array (Nat × Operand), (∀ x ∈ ps.toList, F.ev x.2 = F'.ev x.2) → (ps.toList.map fun x => (x.1, F.ev x.2)) = (ps.toList.map fun x => (x.1, F'.ev x.2)) := fun ps hp =>
    List.map_congr_left fun x hx => by rw [hp x hx]
  unfold aOp
  cases op <;> simp only [Op.operands] at h <;> dsimp only
  case buildSlice t len ps => rw [pairs ps fun x hx => h x.2 (by simp; exact ⟨x.1, by simpa using hx⟩)]
  case call c =>
    obtain ⟨callee, args, tys⟩ := c
    cases callee with
    | builtin bi =>
      cases bi <;> simp only [hp]
      split
      · rename_i x y s t e1 e2
        have : args = #[x, y] := by apply Array.ext'; simpa using e1
        subst this
        rw [h x (by simp [Call.operands]), h y (by simp [Call.operands])]
      · rfl
    | value f =>
      simp only []
      rw [h f (by simp [Call.operands]), List.map_congr_left (l := args.toList) fun x hx => h x (by simp [Call.operands]; exact .inr (by simpa using hx))]
    | invoke r m => simp only [hp]
  case binOp op t x y yt => simp only [hp, h x (by simp), h y (by simp)]
  all_goals (first | (simp only [hp]; done) | (simp_all; done))

theorem ev_put {F : AF} {dst : Option Tmp} {q : PV} {x : Operand} (h : ∀ d, dst = some d → x ≠ .tmp d) : (F.put dst q).ev x = F.ev x := by
  cases dst with
  | none => rfl
  | some d =>
    cases x with
    | tmp t => have : t ≠ d := fun e => h d rfl (by rw [e])
               simp [this]
    | _ => rfl

theorem put_comm (F : AF) {x y : Option Tmp} (q r : PV) (h : ∀ d, x = some d → y ≠ some d) : (F.put x q).put y r = (F.put y r).put x q := by
  cases x with
  | none => rfl
  | some d =>
    cases y with
    | none => rfl
    | some e =>
      have hne : d ≠ e := fun he => h d rfl (he ▸ rfl)
      funext t
      simp only [AF.put_some]
      by_cases h1 : t = d <;> by_cases h2 : t = e <;> simp_all

theorem aOp_put (o : Oper) (F : AF) (dst : Option Nat) (q : PV) (h : ∀ d, dst = some d → d ∉ o.looksAt ops) (H : AS) (k : PV → AS → Prop) : aOp P (F.put dst q) H o k = aOp P F H o k :=
  aOp_congr o (fun x hx => ev_put fun d hd hxd => h d hd (by
    subst hxd
    exact List.mem_append_left _ (List.mem_filterMap.2 ⟨.tmp d, by simpa using hx, rfl⟩))) H k

theorem aWanted_put (o : Oper) (F : AF) (dst : Option Nat) (q : PV) (h : ∀ d, dst = some d → d ∉ o.looksAt ops) : aWanted ops (F.put dst q) o = aWanted ops F o := by
  cases dst with
  | none => rfl
  | some d =>
    unfold aWanted
    cases hg : o.guard with
    | none => rfl
    | some gw =>
      obtain ⟨g, want⟩ := gw
      dsimp only
      cases ht : (ops[g]?).bind (·.dst) with
      | none => rfl
      | some t =>
        have hne : t ≠ d := fun e => h d rfl (by subst e; simp [Oper.looksAt, hg, ht])
        dsimp only
        rw [AF.put_some, if_neg hne]

/-- In every memory that meets S the operation leaves q and nothing else. -/
def YieldsD (P : Program) (ops : Array Oper) (S : AS → Prop) (o : Oper) (q : PV) (F : AF) : Prop :=
  (aWanted ops F o = some true ∧ ∀ H, S H → aOp P F H o fun r H' => r = q ∧ H' = H) ∨ (aWanted ops F o = some false ∧ q = .val undef)

theorem YieldsD.aStep {i : Nat} {o : Oper} {q : PV} (hi : ops[i]? = some o) (hy : YieldsD P ops S o q F) {k : AF → AS → Prop} (hS : S H) (h : k (F.put o.dst q) H) : aStep P ops i F H k := by
  unfold Go.Abs.aStep
  rw [hi]
  rcases hy with ⟨hw, hv⟩ | ⟨hw, rfl⟩
  · simp only [hw]
    refine aOp_mono ?_ (hv H hS)
    rintro r H' ⟨rfl, rfl⟩; exact h
  · simp only [hw]; exact h

theorem YieldsD.put {o o' : Oper} {q r : PV} (hy : YieldsD P ops S o q F) (h : ∀ d, o'.dst = some d → d ∉ o.looksAt ops) : YieldsD P ops S o q (F.put o'.dst r) := by
  unfold YieldsD at *
  rw [aWanted_put o F _ r h]
  refine hy.imp (fun ⟨h1, h2⟩ => ⟨h1, fun H hS => ?_⟩) id
  rw [aOp_put o F _ r h]; exact h2 H hS

theorem aStep_put {j : Nat} {oi oj : Oper} {q : PV} (hj : ops[j]? = some oj) (hap : oi.apart ops oj = true) {k : AF → AS → Prop} (hy : YieldsD P ops S oi q F) (h : aStep P ops j (F.put oi.dst q) H k) :
    aStep P ops j F H fun F' H' => YieldsD P ops S oi q F' ∧ k (F'.put oi.dst q) H' := by
  obtain ⟨h1, h2, h3⟩ := Oper.apart_spec hap
  unfold Go.Abs.aStep at *
  simp only [hj] at *
  rw [aWanted_put oj F _ q h1] at h
  cases hw : aWanted ops F oj with
  | none => rw [hw] at h; exact h.elim
  | some b =>
    rw [hw] at h
    cases b with
    | true =>
      dsimp only at h ⊢
      rw [aOp_put oj F _ q h1] at h
      refine aOp_mono (fun r H' hk => ⟨hy.put h3, ?_⟩) h
      rw [← put_comm F q r h2]; exact hk
    | false =>
      dsimp only at h ⊢
      exact ⟨hy.put h3, by rw [← put_comm F q _ h2]; exact h⟩

theorem aStep_mono {i : Nat} {k k' : AF → AS → Prop} (hk : ∀ F H, k F H → k' F H) (h : aStep P ops i F H k) : aStep P ops i F H k' := by
  unfold Go.Abs.aStep at *
  split
  · rename_i e; rw [e] at h; exact hk _ _ h
  · rename_i o e
    rw [e] at h
    dsimp only at h ⊢
    split at h
    · exact aOp_mono (fun _ _ => hk _ _) h
    · exact hk _ _ h
    · exact h.elim

theorem aAny_first {K : AF → AS → Prop} {i : Nat} {oi : Oper} {q : PV} (hrefl : ∀ i H, J i H H) (hi : ops[i]? = some oi) :
    ∀ (fuel : Nat) (listed : Array Bool) (F : AF) (H : AS),
      (∀ j oj, ops[j]? = some oj → j ≠ i → listed.getD j true = false → (∀ e ∈ oj.after, Region.binds .any e = true → e.on ≠ i) → oi.apart ops oj = true ∧ ∀ H H', J j H H' → S H → S H') →
      i ∈ Region.ready .any ops listed → YieldsD P ops S oi q F → S H →
      aAny P ops J K fuel (listed.setIfInBounds i true) (F.put oi.dst q) H → aAny P ops J K (fuel + 1) listed F H := by
  intro fuel
  induction fuel with
  | zero =>
    intro listed F H _ hr hy hS hh
    refine ⟨fun h => (by rw [h] at hr; cases hr), fun j hj => ?_⟩
    by_cases hji : j = i
    · subst hji; exact hy.aStep hi hS ⟨hrefl _ _, hh⟩
    · have := ready_mono hj hji
      rw [hh.1] at this
      cases this
  | succ fuel ih =>
    intro listed F H hfree hr hy hS hh
    refine ⟨fun h => (by rw [h] at hr; cases hr), fun j hj => ?_⟩
    by_cases hji : j = i
    · subst hji; exact hy.aStep hi hS ⟨hrefl _ _, hh⟩
    · have h1 := hh.2 j (ready_mono hj hji)
      obtain ⟨hjun, oj, hoj, hall⟩ := mem_ready.1 hj
      have hnot : ∀ e ∈ oj.after, Region.binds .any e = true → e.on ≠ i := fun e he hb heq => by
        have h1 := hall e he hb
        have h0 := (mem_ready.1 hr).1
        rw [heq] at h1
        rcases Nat.lt_or_ge i listed.size with h' | h'
        · simp [h'] at h0 h1; rw [h0] at h1; cases h1
        · simp [Array.getElem?_eq_none h'] at h1
      have h2 := aStep_put hoj (hfree j oj hoj hji hjun hnot).1 hy h1
      have hfree' : ∀ k ok, ops[k]? = some ok → k ≠ i → (listed.setIfInBounds j true).getD k true = false →
          (∀ e ∈ ok.after, Region.binds .any e = true → e.on ≠ i) → oi.apart ops ok = true ∧ ∀ H H', J k H H' → S H → S H' := fun k ok hk hki hun hno => by
        refine hfree k ok hk hki ?_ hno
        by_cases hjk : j = k
        · subst hjk; exact hjun
        · rw [getD_set_ne true hjk] at hun; exact hun
      refine aStep_mono (fun F' H' h3 => ⟨h3.2.1, ih (listed.setIfInBounds j true) F' H' hfree' (ready_mono hr (Ne.symm hji)) h3.1 ((hfree j oj hoj hji hjun hnot).2 _ _ h3.2.1 hS) ?_⟩) h2
      rw [Array.setIfInBounds_comm _ _ hji]
      exact h3.2.2

/-- The order in which a region is walked: 'free' may be taken first whatever else waits; 'sole' comes when it alone may come; 'two': these two may come, in either order. -/
inductive Ord where
  | done
  | free (i : Nat) (r : Ord)
  | sole (i : Nat) (r : Ord)
  | two (i j : Nat) (r s : Ord)

/-- What is late writes to what others read, and is bound to come behind them. -/
def lateOk (ops : Array Oper) (late : List Nat) (i : Nat) : Bool :=
  match ops[i]? with
  | none => false
  | some o => match o.op with
    | .load .. | .call .. => late.all fun j => match ops[j]? with
      | some oj => oj.after.any fun e => Region.binds .any e && e.on == i
      | none => true
    | _ => true

def orderFrom (ops : Array Oper) (late : List Nat) : Ord → Array Bool → Bool
  | .done, listed => (Region.ready .any ops listed).isEmpty
  | .free i c, listed => (Region.ready .any ops listed).contains i && Region.free .any ops listed i && lateOk ops late i && orderFrom ops late c (listed.setIfInBounds i true)
  | .sole i c, listed => Region.ready .any ops listed == [i] && orderFrom ops late c (listed.setIfInBounds i true)
  | .two i j c d, listed => Region.ready .any ops listed == [i, j] && orderFrom ops late c (listed.setIfInBounds i true) && orderFrom ops late d (listed.setIfInBounds j true)

def Ord.size : Ord → Nat
  | .done => 0
  | .free _ r | .sole _ r => r.size + 1
  | .two _ _ r _ => r.size + 1

def Ord.even : Ord → Bool
  | .done => true
  | .free _ r | .sole _ r => r.even
  | .two _ _ r s => r.even && s.even && r.size == s.size

def orderOk (ops : Array Oper) (late : List Nat) (c : Ord) : Bool := c.size == ops.size && c.even && orderFrom ops late c (Array.replicate ops.size false)

/-- What the others read stays. -/
def Same (L : Nat → Prop) (H0 H : AS) : Prop := (∀ id, L id → H.box id = H0.box id) ∧ H.color = H0.color

def Keeps (L : Nat → Prop) (late : List Nat) (i : Nat) (H H' : AS) : Prop := late.contains i = false → Same L H H'

theorem Keeps.refl (L : Nat → Prop) (late : List Nat) (i : Nat) (H : AS) : Keeps L late i H H := fun _ => ⟨fun _ _ => rfl, rfl⟩

/-- A call whose answer is q, whatever else came first. -/
def Ask (P : Program) (L : Nat → Prop) (H : AS) (g : FuncId) (args : List PV) (X : PV → Prop) : Prop :=
  ∃ q, (∀ H', Same L H H' → ACalls P g args H' fun r H'' => r = q ∧ H'' = H') ∧ X q

@[congr] theorem Ask_congr {P : Program} {L : Nat → Prop} {H : AS} {g : FuncId} {args args' : List PV} {X : PV → Prop} (h : args = args') : Ask P L H g args X = Ask P L H g args' X := by rw [h]

theorem Ask.of {P : Program} {L : Nat → Prop} {H : AS} {g : FuncId} {args : List PV} {X : PV → Prop} (q : AS → PV) (hq : ∀ H', Same L H H' → q H' = q H) (hc : ∀ H', Same L H H' → ACalls P g args H' fun r H'' => r = q H' ∧ H'' = H') (hX : X (q H)) : Ask P L H g args X :=
  ⟨q H, fun H' hS => hq H' hS ▸ hc H' hS, hX⟩

@[congr] theorem ACalls_congr {P : Program} {H : AS} {g : FuncId} {args args' : List PV} {k : PV → AS → Prop} (h : args = args') : ACalls P g args H k = ACalls P g args' H k := by rw [h]

/-- A region walked in an order: those that are not free may write, but not to the boxes of L, which the others read. -/
def aWalk (P : Program) (ops : Array Oper) (L : Nat → Prop) (late : List Nat) : Ord → AF → AS → (AF → AS → Prop) → Prop
  | .done, F, H, K => K F H
  | .sole i c, F, H, K => aStep P ops i F H fun F' H' => Keeps L late i H H' ∧ aWalk P ops L late c F' H' K
  | .two i j c d, F, H, K => (aStep P ops i F H fun F' H' => Keeps L late i H H' ∧ aWalk P ops L late c F' H' K) ∧ aStep P ops j F H fun F' H' => Keeps L late j H H' ∧ aWalk P ops L late d F' H' K
  | .free i c, F, H, K => match ops[i]? with
    | none => False
    | some o => match aWanted ops F o with
        | some false => aWalk P ops L late c (F.put o.dst (.val undef)) H K
        | none => False
        | some true => match aPure P F o with
          | some q => aWalk P ops L late c (F.put o.dst q) H K
          | none => match o.op with
            | .load t a => match F.ev a with
              | .rptr _ cells => match partOf P t cells 0 with
                | some q => aWalk P ops L late c (F.put o.dst q) H K
                | none => False
              | .ptr id vl row off => match aload P H t (.ptr id vl row off) with
                | some q => L id ∧ aWalk P ops L late c (F.put o.dst q) H K
                | none => False
              | _ => False
            | .call { callee := .value f, args, .. } => match F.ev f with
              | .func g caps => Ask P L H g (args.toList.map F.ev ++ caps) fun q => aWalk P ops L late c (F.put o.dst q) H K
              | _ => False
            | .binOp op t x y _ => match op, aNilTest P t (F.ev x) (F.ev y) with
              | .eql, [b] => (y matches .const _) = true ∧ aWalk P ops L late c (F.put o.dst (.val (.bool b))) H K
              | .neq, [b] => (y matches .const _) = true ∧ aWalk P ops L late c (F.put o.dst (.val (.bool (!b)))) H K
              | _, _ => False
            | _ => False

theorem aOp_of_pure {o : Oper} {q : PV} {k : PV → AS → Prop} (h : aPure P F o = some q) (hk : k q H) : aOp P F H o k := by
  unfold aOp
  obtain ⟨dst, op, ty, pos, after, guard⟩ := o
  split
  case h_9 => rw [h]; exact hk
  case h_8 => rw [h]; exact hk
  all_goals (rename_i e; dsimp only at e; subst e; simp [aPure] at h)

theorem Same.trans {L : Nat → Prop} {H0 H1 H2 : AS} (h : Same L H0 H1) (h' : Same L H1 H2) : Same L H0 H2 := ⟨fun id hl => (h'.1 id hl).trans (h.1 id hl), h'.2.trans h.2⟩

theorem Same.symm {L : Nat → Prop} {H0 H1 : AS} (h : Same L H0 H1) : Same L H1 H0 := ⟨fun id hl => (h.1 id hl).symm, h.2.symm⟩

theorem lateOk_spec {late : List Nat} {i : Nat} {oi : Oper} (hi : ops[i]? = some oi) (h : lateOk ops late i = true) (hk : match oi.op with | .load .. | .call .. => True | _ => False) {j : Nat} {oj : Oper} (hj : ops[j]? = some oj)
    (hno : ∀ e ∈ oj.after, Region.binds .any e = true → e.on ≠ i) : late.contains j = false := by
  unfold lateOk at h
  rw [hi] at h
  dsimp only at h
  cases hc : late.contains j with
  | false => rfl
  | true =>
    exfalso
    have hm : j ∈ late := by simpa using hc
    have key : (late.all fun j => match ops[j]? with
      | some oj => oj.after.any fun e => Region.binds .any e && e.on == i
      | none => true) = true := by
      split at h
      · exact h
      · exact h
      · split at hk <;> first | exact hk.elim | simp_all
    rw [List.all_eq_true] at key
    have h1 := key j hm
    rw [hj] at h1
    obtain ⟨e, he, hb⟩ := Array.any_eq_true'.1 h1
    simp only [Bool.and_eq_true, beq_iff_eq] at hb
    exact hno e he hb.1 hb.2

theorem aWalk_sound {L : Nat → Prop} {late : List Nat} {K : AF → AS → Prop} : ∀ (c : Ord) (listed : Array Bool) (F : AF) (H : AS), c.even = true → orderFrom ops late c listed = true → aWalk P ops L late c F H K →
    aAny P ops (Keeps L late) K c.size listed F H
  | .done, listed, F, H, _, ho, h => ⟨by simpa [orderFrom] using ho, h⟩
  | .sole i c, listed, F, H, hev, ho, h => by
    unfold orderFrom at ho
    rw [Bool.and_eq_true] at ho
    unfold aWalk at h
    have hr : Region.ready .any ops listed = [i] := by simpa using ho.1
    unfold Ord.size aAny
    constructor
    · intro e; rw [hr] at e; cases e
    intro j hj
    rw [hr] at hj
    have : j = i := by simpa using hj
    subst this
    exact aStep_mono (fun F' H' hk => ⟨hk.1, aWalk_sound c _ F' H' hev ho.2 hk.2⟩) h
  | .two i j c d, listed, F, H, hev, ho, h => by
    unfold orderFrom at ho
    rw [Bool.and_eq_true, Bool.and_eq_true] at ho
    unfold aWalk at h
    simp only [Ord.even, Bool.and_eq_true, beq_iff_eq] at hev
    have hr : Region.ready .any ops listed = [i, j] := by simpa using ho.1.1
    unfold Ord.size aAny
    constructor
    · intro e; rw [hr] at e; cases e
    intro k hk
    rw [hr] at hk
    have : k = i ∨ k = j := by simpa using hk
    rcases this with rfl | rfl
    · exact aStep_mono (fun F' H' hk => ⟨hk.1, aWalk_sound c _ F' H' hev.1.1 ho.1.2 hk.2⟩) h.1
    · refine aStep_mono (fun F' H' hk => ⟨hk.1, ?_⟩) h.2
      rw [hev.2]
      exact aWalk_sound d _ F' H' hev.1.2 ho.2 hk.2
  | .free i c, listed, F, H, hev, ho, h => by
    unfold orderFrom at ho
    rw [Bool.and_eq_true, Bool.and_eq_true, Bool.and_eq_true] at ho
    unfold aWalk at h
    split at h
    · exact h.elim
    · rename_i o hi
      have hr : i ∈ Region.ready .any ops listed := by simpa using ho.1.1.1
      have go0 : ∀ q, YieldsD P ops (fun _ => True) o q F → aWalk P ops L late c (F.put o.dst q) H K → aAny P ops (Keeps L late) K (c.size + 1) listed F H := fun q hy hk =>
        aAny_first (S := fun _ => True) (Keeps.refl L late) hi c.size listed F H (fun j oj hj hne hun hno => ⟨Region.free_spec hi ho.1.1.2 j oj hj hne hun hno, fun _ _ _ h => h⟩) hr hy trivial (aWalk_sound c _ _ H hev ho.2 hk)
      have go : ∀ q, (match o.op with | .load .. | .call .. => True | _ => False) → aWanted ops F o = some true → (∀ H', Same L H H' → aOp P F H' o fun r H'' => r = q ∧ H'' = H') → aWalk P ops L late c (F.put o.dst q) H K → aAny P ops (Keeps L late) K (c.size + 1) listed F H := fun q hkind hw hq hk =>
        aAny_first (S := Same L H) (Keeps.refl L late) hi c.size listed F H (fun j oj hj hne hun hno => ⟨Region.free_spec hi ho.1.1.2 j oj hj hne hun hno, fun _ _ hJ hs => hs.trans (hJ (lateOk_spec hi ho.1.2 hkind hj hno))⟩) hr (.inl ⟨hw, hq⟩) ⟨fun _ _ => rfl, rfl⟩ (aWalk_sound c _ _ H hev ho.2 hk)
      split at h
      · rename_i hw
        exact go0 _ (.inr ⟨hw, rfl⟩) h
      · exact h.elim
      · rename_i hw
        split at h
        · rename_i q hp
          exact go0 q (.inl ⟨hw, fun H' _ => aOp_of_pure hp ⟨rfl, rfl⟩⟩) h
        · rename_i hp
          obtain ⟨dst, op, ty, pos, after, guard⟩ := o
          dsimp only at h go go0
          split at h
          · rename_i t a
            split at h
            · rename_i cc cells e
              split at h
              · rename_i q hq
                exact go q trivial hw (fun H' _ => by unfold aOp; dsimp only; rw [e]; simp [aload, hq]) h
              · exact h.elim
            · rename_i id vl row off e
              split at h
              · rename_i q hq
                refine go q trivial hw (fun H' hS' => ?_) h.2
                unfold aOp; dsimp only; rw [e]
                have : aload P H' t (.ptr id vl row off) = aload P H t (.ptr id vl row off) := by
                  unfold aload; dsimp only; rw [hS'.1 id h.1]
                rw [this, hq]
                exact ⟨rfl, rfl⟩
              · exact h.elim
            · exact h.elim
          · rename_i f args tys
            split at h
            · rename_i g caps e
              obtain ⟨q, hq, hk⟩ := h
              exact go q trivial hw (fun H' hS' => by unfold aOp; dsimp only; rw [e]; exact hq H' hS') hk
            · exact h.elim
          · rename_i op t x y yt
            split at h
            · rename_i b e
              refine go0 _ (.inl ⟨hw, fun H' _ => ?_⟩) h.2
              unfold aOp; dsimp only; rw [hp]; dsimp only
              simp only [e]
              exact ⟨h.1, fun r hr => by simp at hr; simp [hr]⟩
            · rename_i b e
              refine go0 _ (.inl ⟨hw, fun H' _ => ?_⟩) h.2
              unfold aOp; dsimp only; rw [hp]; dsimp only
              simp only [e]
              exact ⟨h.1, fun r hr => by simp at hr; simp [hr]⟩
            · exact h.elim
          · exact h.elim

/-- A statement that leaves its order open. -/
theorem T_draw {id : Nat} {Q : Exit → AF → AS → Prop} (L : Nat → Prop) (late : List Nat) (c : Ord) (hm : P.follows .mixedOrders = true) (hok : regionOk n ops = true) (ho : orderOk ops late c = true) (h : aWalk P ops L late c F H (Q .normal)) : T P n b (.region id ops true) F H Q := fun G0 G w a _ hle hr hF => by
  unfold orderOk at ho
  rw [Bool.and_eq_true, Bool.and_eq_true] at ho
  have hl : c.size = ops.size := by simpa using ho.1.1
  refine wp_region_any hm ?_
  have := aWalk_sound c _ F H ho.1.2 ho.2 h
  rw [hl] at this
  exact aAny_sound hok ops.size _ hle (hr.drew _) hF this

end
end Go.Abs
