/- Texts of ours, merged: the abstract layer, the walks over the loaded functions, the plain laws. -/
import Derived.Test.YtllgmpejmagndaaGreatDoorA1
import Derived.ProofKit
import Derived.SizedLaws
namespace Go.Abs
set_option autoImplicit false
set_option linter.all false
set_option maxRecDepth 100000
set_option maxHeartbeats 40000000
set_option linter.unusedSimpArgs false
def OutIs (lo : Nat) (H : AS) (p : PV) (sz : Nat) (rows : List (List PV)) : Prop :=
 (rows = [] ∧ p = .nil) ∨ ∃ id, lo ≤ id ∧ id < H.next ∧ p = .msl id rows.length sz ∧ H.box id = some rows
def Above (lo : Nat) (H H' : AS) : Prop := ∀ H0 : AS, H0.next ≤ lo → H0.Ext H → H0.Ext H'
theorem Above.box {lo : Nat} {H H' : AS} (h : Above lo H H') (hlo : lo ≤ H.next) {j : Nat} (hj : j < lo) : H'.box j = H.box j :=
 (h ⟨H.box, H.mp, lo, H.color⟩ (Nat.le_refl _) ⟨hlo, fun _ _ => rfl, fun _ _ => rfl, rfl⟩).box j hj
theorem Above.next {lo : Nat} {H H' : AS} (h : Above lo H H') (hlo : lo ≤ H.next) : lo ≤ H'.next :=
 (h ⟨H.box, H.mp, lo, H.color⟩ (Nat.le_refl _) ⟨hlo, fun _ _ => rfl, fun _ _ => rfl, rfl⟩).next
theorem OutIs.nil {lo : Nat} {H : AS} {sz : Nat} : OutIs lo H .nil sz [] := .inl ⟨rfl, rfl⟩
theorem Above.refl {lo : Nat} {H : AS} : Above lo H H := fun _ _ h => h
structure Elsewhere (p p' : PV) (H H' : AS) : Prop where
 next : H.next ≤ H'.next
 color : H'.color = H.color
 box : ∀ j, j < H.next → (∀ n s, p ≠ .msl j n s) → H'.box j = H.box j
 mp : ∀ j, H'.mp j = H.mp j
 own : ∀ j n s, p' = .msl j n s → (∃ m s', p = .msl j m s') ∨ H.next ≤ j
theorem aappend_outF {P : Program} {lo : Nat} {H : AS} {p : PV} {sz : Nat} {rows : List (List PV)} (h : OutIs lo H p sz rows) (hlo : lo ≤ H.next) {sT xT elem : TypeId} {xd : TypeDesc} {zs : List PV} {by_ : Nat}
  (h1 : P.underlying sT = some (.slice elem)) (h2 : P.underlying xT = some xd) (hsz : szOf P elem = some sz) (hz : zeroOf P elem = some zs) (hb : bytesOf P elem = some by_)
  (hz1 : zs.length = sz) (hz2 : zs.all PV.atomic = true) (hby : 0 < by_) {y : PV} {ys : List (List PV)} (hy : srcOfT H sz xd y = some ys) (hfr : ∀ r ∈ ys, ∀ p ∈ r, Frozen p)
  (hsize : appFits (rows.length + ys.length) by_) {k : PV → AS → Prop} (hk : ∀ p' H', OutIs lo H' p' sz (rows ++ ys) → Above lo H H' → Elsewhere p p' H H' → k p' H') : aappend P H sT xT p y k := by
 left
 unfold aappendX fzR
 simp only [h1, h2, hsz, hz, hb, hy, frzR_id hfr, if_true]
 refine ⟨⟨hz1, hz2, hby⟩, ?_⟩
 rcases h with ⟨rfl, rfl⟩ | ⟨id, hid, hlt, rfl, hbox⟩
 by_cases hl : ys.length = 0
 have : ys = [] := List.length_eq_zero_iff.1 hl
 subst this
 exact hk _ _ .nil .refl ⟨Nat.le_refl _, rfl, fun _ _ _ => rfl, fun _ => rfl, fun j n s e => .inl ⟨n, s, e⟩⟩
 simp only [hl, if_false]
 refine ⟨by simpa using hsize, hk _ _ (.inr ⟨H.next, hlo, by simp, by simp, by simp⟩) (fun H0 h0 hext => ?_) ⟨by simp, rfl, fun j hj _ => by simp [Nat.ne_of_lt hj], fun _ => rfl, fun j n s e => by cases e; exact .inr (Nat.le_refl _)⟩⟩
 exact AS.Ext.bump (AS.Ext.setBox (by omega) hext)
 simp only [hbox]
 refine ⟨⟨trivial, trivial, hsize⟩, hk _ _ (.inr ⟨id, hid, by simpa using hlt, by simp, by simp⟩) (fun H0 h0 hext => ?_) ⟨by simp, rfl, fun j _ hj => ?_, fun _ => rfl, fun j n s e => by cases e; exact .inl ⟨_, _, rfl⟩⟩⟩
 exact AS.Ext.setBox (by omega) hext
 have : j ≠ id := fun e => hj _ _ (by rw [e])
 simp [this]
theorem aappend_outR {P : Program} {lo : Nat} {H : AS} {p : PV} {sz : Nat} {rows : List (List PV)} (h : OutIs lo H p sz rows) (hlo : lo ≤ H.next) {sT xT elem : TypeId} {xd : TypeDesc} {zs : List PV} {by_ : Nat}
  (h1 : P.underlying sT = some (.slice elem)) (h2 : P.underlying xT = some xd) (hsz : szOf P elem = some sz) (hz : zeroOf P elem = some zs) (hb : bytesOf P elem = some by_)
  (hz1 : zs.length = sz) (hz2 : zs.all PV.atomic = true) (hby : 0 < by_) {y : PV} {ys : List (List PV)} (hy : srcOfT H sz xd y = some ys)
  (hsize : appFits (rows.length + ys.length) by_) {k : PV → AS → Prop} (hk : ∀ p' H', OutIs lo H' p' sz (rows ++ ys) → Above lo H H' → Elsewhere p p' H H' → k p' H') : aappend P H sT xT p y k := by
 right
 unfold aappendX fzR
 simp only [h1, h2, hsz, hz, hb, hy, Bool.false_eq_true, if_false]
 refine ⟨⟨hz1, hz2, hby⟩, ?_⟩
 rcases h with ⟨rfl, rfl⟩ | ⟨id, hid, hlt, rfl, hbox⟩
 by_cases hl : ys.length = 0
 have : ys = [] := List.length_eq_zero_iff.1 hl
 subst this
 exact hk _ _ .nil .refl ⟨Nat.le_refl _, rfl, fun _ _ _ => rfl, fun _ => rfl, fun j n s e => .inl ⟨n, s, e⟩⟩
 simp only [hl, if_false]
 refine ⟨by simpa using hsize, hk _ _ (.inr ⟨H.next, hlo, by simp, by simp, by simp⟩) (fun H0 h0 hext => ?_) ⟨by simp, rfl, fun j hj _ => by simp [Nat.ne_of_lt hj], fun _ => rfl, fun j n s e => by cases e; exact .inr (Nat.le_refl _)⟩⟩
 exact AS.Ext.bump (AS.Ext.setBox (by omega) hext)
 simp only [hbox]
 refine ⟨⟨trivial, trivial, hsize⟩, hk _ _ (.inr ⟨id, hid, by simpa using hlt, by simp, by simp⟩) (fun H0 h0 hext => ?_) ⟨by simp, rfl, fun j _ hj => ?_, fun _ => rfl, fun j n s e => by cases e; exact .inl ⟨_, _, rfl⟩⟩⟩
 exact AS.Ext.setBox (by omega) hext
 have : j ≠ id := fun e => hj _ _ (by rw [e])
 simp [this]
theorem aappend_outT {P : Program} {lo : Nat} {H : AS} {p : PV} {sz : Nat} {rows : List (List PV)} (h : OutIs lo H p sz rows) (hlo : lo ≤ H.next) {sT xT elem : TypeId} {xd : TypeDesc} {zs : List PV} {by_ : Nat}
  (h1 : P.underlying sT = some (.slice elem)) (h2 : P.underlying xT = some xd) (hsz : szOf P elem = some sz) (hz : zeroOf P elem = some zs) (hb : bytesOf P elem = some by_)
  (hz1 : zs.length = sz) (hz2 : zs.all PV.atomic = true) (hby : 0 < by_) {y : PV} {ys : List (List PV)} (hy : srcOfT H sz xd y = some ys) (hfr : ∀ r ∈ ys, ∀ p ∈ r, Frozen p)
  (hsize : (rows.length + ys.length) * by_ ≤ 2 ^ 47) {k : PV → AS → Prop} (hk : ∀ p' H', OutIs lo H' p' sz (rows ++ ys) → Above lo H H' → Elsewhere p p' H H' → k p' H') : aappend P H sT xT p y k :=
 aappend_outF h hlo h1 h2 hsz hz hb hz1 hz2 hby hy hfr (.inl hsize) hk
theorem frz_out {lo : Nat} {H : AS} {p : PV} {sz : Nat} {rows : List (List PV)} (h : OutIs lo H p sz rows) : ∃ H', frz H p = (PV.sl H.color sz rows, H') ∧ Above lo H H' := by
 rcases h with ⟨rfl, rfl⟩ | ⟨id, hid, hlt, rfl, hbox⟩
 exact ⟨H, rfl, .refl⟩
 refine ⟨H.kill id, by simp [frz, hbox], fun H0 h0 hext => AS.Ext.kill (by omega) hext⟩
theorem OutIs.atomic {lo : Nat} {H : AS} {p : PV} {sz : Nat} {rows : List (List PV)} (h : OutIs lo H p sz rows) : p.atomic = true := by
 rcases h with ⟨rfl, rfl⟩ | ⟨id, hid, hlt, rfl, hbox⟩ <;> rfl
theorem OutIs.okCells {lo : Nat} {H : AS} {p : PV} {sz : Nat} {rows : List (List PV)} (h : OutIs lo H p sz rows) : p.okCells = true := by
 rcases h with ⟨rfl, rfl⟩ | ⟨id, hid, hlt, rfl, hbox⟩ <;> rfl
theorem OutIs.cells {lo : Nat} {H : AS} {p : PV} {sz : Nat} {rows : List (List PV)} (h : OutIs lo H p sz rows) : p.cells = [p] := by
 rcases h with ⟨rfl, rfl⟩ | ⟨id, hid, hlt, rfl, hbox⟩ <;> rfl
theorem OutIs.keep {lo : Nat} {H H' : AS} {p : PV} {sz : Nat} {rows : List (List PV)} (h : OutIs lo H p sz rows) (hn : H.next ≤ H'.next) (hb : ∀ id, lo ≤ id → id < H.next → H'.box id = H.box id) : OutIs lo H' p sz rows := by
 rcases h with ⟨rfl, rfl⟩ | ⟨id, hid, hlt, rfl, hbox⟩
 exact .nil
 exact .inr ⟨id, hid, Nat.lt_of_lt_of_le hlt hn, rfl, by rw [hb id hid hlt]; exact hbox⟩
theorem owes_out {P : Program} {H : AS} {fn : Func} {p : PV} {F' : AF} {H' : AS} {e : Exit} {lo sz : Nat} {rows : List (List PV)} (he : e = .normal ∨ e = .ret) (hwf : WF H) (hr : aResults P F' H' fn.results.toList = some [p])
  (hout : OutIs lo H' p sz rows) (hlo : H.next ≤ lo) (hext : H.Ext H') (hb : ∀ r ∈ rows, ∀ p ∈ r, Below H.next p) : Owes P fn H (fun r H'' => r = PV.sl H.color sz rows ∧ H'' = H) e F' H' := by
 obtain ⟨H2, hf, hab⟩ := frz_out hout
 have hv : frzV H' p = (PV.sl H'.color sz rows, H2) := by
  rcases hout with ⟨rfl, rfl⟩ | ⟨id, hid, hlt, rfl, hbox⟩ <;> exact hf
 refine owes_pure he hwf hr ?_ ?_ ?_ <;> simp [frzVs, hv, packed]
 exact hab H hlo hext
 exact hb
 rw [hext.color]
@[congr] theorem aappend_congr {P : Program} {H : AS} {s t : TypeId} {x x' y y' : PV} {k : PV → AS → Prop} (h : x = x') (h' : y = y') : aappend P H s t x y k = aappend P H s t x' y' k := by rw [h, h']
set_option linter.unusedSimpArgs false
class Kont (α : Sort _) where
 run : α
section
variable {α : Type}
def obind (x : Option α) [k : Kont (α → Prop)] : Prop := match x with
 | some a => k.run a
 | none => False
@[simp] theorem obind_some (a : α) (k : α → Prop) : @obind _ (some a) ⟨k⟩ = k a := _root_.id rfl
@[simp] theorem obind_none (k : α → Prop) : @obind α none ⟨k⟩ = False := _root_.id rfl
def oelse (x : Option α) [k : Kont (α → Prop)] [e : Kont Prop] : Prop := match x with
 | some a => k.run a
 | none => e.run
@[simp] theorem oelse_some (a : α) (k : α → Prop) (e : Prop) : @oelse _ (some a) ⟨k⟩ ⟨e⟩ = k a := _root_.id rfl
@[simp] theorem oelse_none (k : α → Prop) (e : Prop) : @oelse α none ⟨k⟩ ⟨e⟩ = e := _root_.id rfl
def gcond (b : Bool) [A : Kont Prop] [B : Kont Prop] : Prop := match b with
 | true => A.run
 | false => B.run
@[simp] theorem gcond_true (A B : Prop) : @gcond true ⟨A⟩ ⟨B⟩ = A := _root_.id rfl
@[simp] theorem gcond_false (A B : Prop) : @gcond false ⟨A⟩ ⟨B⟩ = B := _root_.id rfl
def strict (a : α) [k : Kont (α → Prop)] : Prop := k.run a
@[simp] theorem strict_eq (a : α) (k : α → Prop) : @strict _ a ⟨k⟩ = k a := _root_.id rfl
def boolOf (p : PV) [k : Kont (Bool → Prop)] : Prop := match p with
 | .val (.bool b) => k.run b
 | _ => False
@[simp] theorem boolOf_bool (b : Bool) (k : Bool → Prop) : @boolOf (.val (.bool b)) ⟨k⟩ = k b := _root_.id rfl
def funcOf (p : PV) [k : Kont (FuncId → List PV → Prop)] : Prop := match p with
 | .func g caps => k.run g caps
 | _ => False
def callOf (p : PV) [k : Kont (FuncId → (List PV → List PV) → Prop)] : Prop := match p with
 | .func g caps => k.run g fun args => args ++ caps
 | .bound g first => k.run g fun args => first ++ args
 | _ => False
@[simp] theorem callOf_func (g : FuncId) (caps : List PV) (k : FuncId → (List PV → List PV) → Prop) : @callOf (.func g caps) ⟨k⟩ = k g (fun args => args ++ caps) := _root_.id rfl
@[simp] theorem callOf_bound (g : FuncId) (first : List PV) (k : FuncId → (List PV → List PV) → Prop) : @callOf (.bound g first) ⟨k⟩ = k g (fun args => first ++ args) := _root_.id rfl
@[simp] theorem funcOf_func (g : FuncId) (caps : List PV) (k : FuncId → List PV → Prop) : @funcOf (.func g caps) ⟨k⟩ = k g caps := _root_.id rfl
def floatK (o : Option FloatKind) [k : Kont (Value → Prop)] [e : Kont Prop] : Prop := floatElse o k.run e.run
@[simp] theorem floatK_none (k : Value → Prop) (e : Prop) : @floatK none ⟨k⟩ ⟨e⟩ = e := _root_.id rfl
@[simp] theorem floatK_some (kd : FloatKind) (k : Value → Prop) (e : Prop) : @floatK (some kd) ⟨k⟩ ⟨e⟩ = ∀ r, k (.float kd r) := _root_.id rfl
attribute [simp] aFloatOp
def nilK (op : BinOp) (bs : List Bool) (y : Operand) [k : Kont (Bool → Prop)] : Prop := nilElse op bs y k.run
@[simp] theorem nilK_eql1 (b : Bool) (v : Value) (k : Bool → Prop) : @nilK .eql [b] (.const v) ⟨k⟩ = k b := by simp [nilK, nilElse]
@[simp] theorem nilK_neq1 (b : Bool) (v : Value) (k : Bool → Prop) : @nilK .neq [b] (.const v) ⟨k⟩ = k (!b) := by simp [nilK, nilElse]
@[simp] theorem nilK_eql2 (v : Value) (k : Bool → Prop) : @nilK .eql [true, false] (.const v) ⟨k⟩ = (k true ∧ k false) := by simp [nilK, nilElse, and_comm]
@[simp] theorem nilK_neq2 (v : Value) (k : Bool → Prop) : @nilK .neq [true, false] (.const v) ⟨k⟩ = (k false ∧ k true) := by simp [nilK, nilElse, and_comm]
def callK (P : Program) (f : FuncId) (args : List PV) (H : AS) [k : Kont (PV → AS → Prop)] : Prop := ACalls P f args H k.run
theorem callK.of {P : Program} {f : FuncId} {args : List PV} {H : AS} {k k0 : PV → AS → Prop} (h : ACalls P f args H k0) (hk : ∀ q H', k0 q H' → k q H') : @callK P f args H ⟨k⟩ := h.mono hk
def eitherK (x y : Option (PV × AS)) [k : Kont (PV → AS → Prop)] : Prop := eitherOf x y k.run
@[simp] theorem eitherK_same (x : Option (PV × AS)) (k : PV → AS → Prop) : @eitherK x x ⟨k⟩ = @obind _ x ⟨fun r => k r.1 r.2⟩ := by
 unfold eitherK eitherOf obind
 cases x with
 | none => simp
 | some r => exact propext ⟨fun ⟨q, H', e, h⟩ => by rcases e with e | e <;> (cases e; exact h), fun h => ⟨r.1, r.2, .inl rfl, h⟩⟩
attribute [simp] abuildRaw
theorem eitherK.fz {q : PV} {H' : AS} {y : Option (PV × AS)} {k : PV → AS → Prop} (h : k q H') : @eitherK (some (q, H')) y ⟨k⟩ := ⟨q, H', .inl rfl, h⟩
theorem eitherK.raw {q : PV} {H' : AS} {x : Option (PV × AS)} {k : PV → AS → Prop} (h : k q H') : @eitherK x (some (q, H')) ⟨k⟩ := ⟨q, H', .inr rfl, h⟩
def appendK (P : Program) (H : AS) (s t : TypeId) (x y : PV) [k : Kont (PV → AS → Prop)] : Prop := aappend P H s t x y k.run
theorem appendK.of {P : Program} {H : AS} {s t : TypeId} {x y : PV} {k : PV → AS → Prop} (h : aappend P H s t x y k) : @appendK P H s t x y ⟨k⟩ := h
def askK (P : Program) (L : Nat → Prop) (H : AS) (g : FuncId) (args : List PV) [X : Kont (PV → Prop)] : Prop := Ask P L H g args X.run
theorem askK.of {P : Program} {L : Nat → Prop} {H : AS} {g : FuncId} {args : List PV} {X : PV → Prop} (q : AS → PV) (hq : ∀ H', Same L H H' → q H' = q H) (hc : ∀ H', Same L H H' → ACalls P g args H' fun r H'' => r = q H' ∧ H'' = H') (hX : X (q H)) : @askK P L H g args ⟨X⟩ := Ask.of q hq hc hX
end
section
variable {P : Program} {F : AF} {H : AS} {k : PV → AS → Prop} {d : Option Tmp} {ty : TypeId} {pos : String} {af : Array Edge} {g : Option (Nat × Bool)}
theorem ex_pure {o : Oper} {x : Option PV} (h : aPure P F o = x) (hk : match o.op with
 | .move _ | .assign _ | .pick .. | .build .. | .nilCheck _ | .unOp .. | .makeInterface .. | .makeFunc .. | .slice .. | .fieldAddr .. | .field .. | .indexAddr .. | .index .. | .extract .. | .sliceToArrayPointer .. => True
 | .call { callee := .builtin .len, .. } => True
 | .call { callee := .builtin .min, .. } => True
 | _ => False) : aOp P F H o k = @obind _ x ⟨fun q => k q H⟩ := by
 obtain ⟨dst, op, t, po, aft, gu⟩ := o
 subst h
 cases op <;> first | exact hk.elim | skip
 all_goals try (unfold aOp obind; dsimp only; split <;> rename_i e <;> rw [e])
 rename_i c
 obtain ⟨callee, args, tys⟩ := c
 cases callee <;> first | exact hk.elim | skip
 rename_i b
 cases b <;> first | exact hk.elim | skip
 all_goals (unfold aOp obind; dsimp only; split <;> rename_i e <;> rw [e])
theorem ex_move (x : Operand) : aOp P F H ⟨d, .move x, ty, pos, af, g⟩ k = @strict _ (F.ev x) ⟨fun q => k q H⟩ := _root_.id rfl
theorem ex_assign (x : Operand) : aOp P F H ⟨d, .assign x, ty, pos, af, g⟩ k = @strict _ (F.ev x) ⟨fun q => k q H⟩ := _root_.id rfl
theorem ex_pick (c a b : Operand) : aOp P F H ⟨d, .pick c a b, ty, pos, af, g⟩ k = @boolOf (F.ev c) ⟨fun t => @strict _ (PV.sel t (F.ev a) (F.ev b)) ⟨fun q => k q H⟩⟩ := by
 rw [ex_pure rfl trivial]; simp only [aPure]; unfold boolOf strict; split <;> simp_all
theorem ex_build (t : TypeId) (ps : Array (Nat × Operand)) : aOp P F H ⟨d, .build t ps, ty, pos, af, g⟩ k = @obind _ (aBuild P t (ps.toList.map fun x => (x.1, F.ev x.2))) ⟨fun q => k q H⟩ := id (ex_pure rfl trivial)
theorem ex_nilCheck (x : Operand) : aOp P F H ⟨d, .nilCheck x, ty, pos, af, g⟩ k = @obind _ (match F.ev x with
  | .ptr id vl row off => some (.ptr id vl row off)
  | .rptr c cells => some (.rptr c cells)
  | .func f caps => some (.func f caps)
  | .iface t p => some (.iface t p)
  | _ => none) ⟨fun q => k q H⟩ := id (ex_pure rfl trivial)
theorem ex_unOp (op : UnOp) (t : TypeId) (x : Operand) : aOp P F H ⟨d, .unOp op t x, ty, pos, af, g⟩ k = @obind _ (aUn op (F.ev x)) ⟨fun q => k q H⟩ := id (ex_pure rfl trivial)
theorem ex_convert (s t : TypeId) (x : Operand) : aOp P F H ⟨d, .convert s t x, ty, pos, af, g⟩ k = @oelse _ (aConvert P s t (F.ev x)) ⟨fun q => k q H⟩ ⟨@oelse _ (aToString P s t (F.ev x)) ⟨fun q => k q H⟩ ⟨@oelse _ (aToStringM P H s t (F.ev x)) ⟨fun q => k q H⟩ ⟨@obind _ (aToBytes P H s t (F.ev x)) ⟨fun r => k r.1 r.2⟩⟩⟩⟩ := by
 unfold aOp oelse obind
 simp only [aPure]
 cases e : aConvert P s t (F.ev x) <;> rfl
theorem ex_min (x y : Operand) (ts : Array TypeId) : aOp P F H ⟨d, .call ⟨.builtin .min, #[x, y], ts⟩, ty, pos, af, g⟩ k = @obind _ (amin (F.ev x) (F.ev y)) ⟨fun q => k q H⟩ := id (ex_pure rfl trivial)
theorem ex_makeSlice (t : TypeId) (x y : Operand) : aOp P F H ⟨d, .makeSlice t x y, ty, pos, af, g⟩ k = @obind _ (amakeS P H t (F.ev x) (F.ev y)) ⟨fun r => k r.1 r.2⟩ := by
 unfold aOp obind; dsimp only; cases e : amakeS P H t (F.ev x) (F.ev y) <;> rfl
theorem ex_makeMap (t : TypeId) : aOp P F H ⟨d, .makeMap t none, ty, pos, af, g⟩ k = @obind _ (amakeMap P H t) ⟨fun r => k r.1 r.2⟩ := by
 unfold aOp obind; dsimp only; cases e : amakeMap P H t <;> rfl
theorem ex_lookup (t : TypeId) (m x : Operand) (ok : Bool) : aOp P F H ⟨d, .lookup t m x ok, ty, pos, af, g⟩ k = @obind _ (aLookup P H t (F.ev m) (F.ev x) ok) ⟨fun q => k q H⟩ := by
 unfold aOp obind; dsimp only; cases e : aLookup P H t (F.ev m) (F.ev x) ok <;> rfl
theorem ex_mapUpdate (t : TypeId) (m x y : Operand) : aOp P F H ⟨d, .mapUpdate t m x y, ty, pos, af, g⟩ k = @obind _ (aMapUpdate P H t (F.ev m) (F.ev x) (F.ev y)) ⟨fun H' => k (.val undef) H'⟩ := by
 unfold aOp obind; dsimp only; cases e : aMapUpdate P H t (F.ev m) (F.ev x) (F.ev y) <;> rfl
theorem ex_makeFunc (f : FuncId) (first caps : Array Operand) : aOp P F H ⟨d, .makeFunc (.func f) first caps, ty, pos, af, g⟩ k = @obind _ (if first.size = 0 then some (.func f (caps.toList.map F.ev)) else if caps.size = 0 then some (.bound f (first.toList.map F.ev)) else none) ⟨fun q => k q H⟩ := id (ex_pure rfl trivial)
theorem ex_slice (t : TypeId) (x : Operand) (lo hi : Option Operand) : aOp P F H ⟨d, .slice t x lo hi none, ty, pos, af, g⟩ k = @obind _ (aCutOp P t (F.ev x) (lo.map F.ev) (hi.map F.ev)) ⟨fun q => k q H⟩ := id (ex_pure rfl trivial)
theorem ex_fieldAddr (t : TypeId) (x : Operand) (i : Nat) : aOp P F H ⟨d, .fieldAddr t x i, ty, pos, af, g⟩ k = @obind _ (aFieldAddr P t (F.ev x) i) ⟨fun q => k q H⟩ := id (ex_pure rfl trivial)
theorem ex_field (t : TypeId) (x : Operand) (i : Nat) : aOp P F H ⟨d, .field t x i, ty, pos, af, g⟩ k = @obind _ (aField P t (F.ev x) i) ⟨fun q => k q H⟩ := id (ex_pure rfl trivial)
theorem ex_indexAddr (t : TypeId) (x i : Operand) : aOp P F H ⟨d, .indexAddr t x i, ty, pos, af, g⟩ k = @obind _ (aIndexAddr P t (F.ev x) (F.ev i)) ⟨fun q => k q H⟩ := id (ex_pure rfl trivial)
theorem ex_index (t : TypeId) (x i : Operand) : aOp P F H ⟨d, .index t x i, ty, pos, af, g⟩ k = @obind _ (aIndex P t (F.ev x) (F.ev i)) ⟨fun q => k q H⟩ := id (ex_pure rfl trivial)
theorem ex_extract (x : Operand) (i : Nat) : aOp P F H ⟨d, .extract x i, ty, pos, af, g⟩ k = @obind _ (aExtract (F.ev x) i) ⟨fun q => k q H⟩ := id (ex_pure rfl trivial)
theorem ex_len (x : Operand) (t : TypeId) : aOp P F H ⟨d, .call ⟨.builtin .len, #[x], #[t]⟩, ty, pos, af, g⟩ k = @obind _ (aLen P t (F.ev x)) ⟨fun q => k q H⟩ := id (ex_pure rfl trivial)
theorem ex_binOp (op : BinOp) (t : TypeId) (x y : Operand) (yt : TypeId) : aOp P F H ⟨d, .binOp op t x y yt, ty, pos, af, g⟩ k = @oelse _ (aBin P op t (F.ev x) (F.ev y)) ⟨fun q => k q H⟩ ⟨@floatK (aFloatOp op (F.ev x) (F.ev y)) ⟨fun v => k (.val v) H⟩ ⟨@nilK op (aNilTest P t (F.ev x) (F.ev y)) y ⟨fun r => k (.val (.bool r)) H⟩⟩⟩ := by
 unfold aOp oelse
 simp only [aPure]
 cases e : aBin P op t (F.ev x) (F.ev y) <;> rfl
theorem ex_alloc (t : TypeId) : aOp P F H ⟨d, .alloc t, ty, pos, af, g⟩ k = @obind _ (aalloc P H t) ⟨fun r => k r.1 r.2⟩ := by
 unfold aOp obind; dsimp only; cases e : aalloc P H t <;> rfl
theorem ex_box (t : TypeId) (x : Operand) : aOp P F H ⟨d, .box t x, ty, pos, af, g⟩ k = @obind _ (abox H (F.ev x)) ⟨fun r => k r.1 r.2⟩ := by
 unfold aOp obind; dsimp only; cases e : abox H (F.ev x) <;> rfl
theorem ex_buildSlice (t : TypeId) (l : Nat) (ps : Array (Nat × Operand)) : aOp P F H ⟨d, .buildSlice t l ps, ty, pos, af, g⟩ k = @eitherK (abuildSlice P H t l (ps.toList.map fun x => (x.1, F.ev x.2))) (abuildRaw P H t l (ps.toList.map fun x => (x.1, F.ev x.2))) ⟨k⟩ := _root_.id rfl
theorem ex_load (t : TypeId) (a : Operand) : aOp P F H ⟨d, .load t a, ty, pos, af, g⟩ k = @obind _ (aload P H t (F.ev a)) ⟨fun q => k q H⟩ := by
 unfold aOp obind; dsimp only; cases e : aload P H t (F.ev a) <;> rfl
theorem ex_store (t : TypeId) (a x : Operand) : aOp P F H ⟨d, .store t a x, ty, pos, af, g⟩ k = @obind _ (astore P H t (F.ev a) (F.ev x)) ⟨fun H' => k (.val undef) H'⟩ := by
 unfold aOp obind; dsimp only; cases e : astore P H t (F.ev a) (F.ev x) <;> rfl
theorem ex_call (f : Operand) (args : Array Operand) (tys : Array TypeId) : aOp P F H ⟨d, .call ⟨.value f, args, tys⟩, ty, pos, af, g⟩ k = @callOf (F.ev f) ⟨fun h mk => @callK P h (mk (args.toList.map F.ev)) H ⟨k⟩⟩ := by
 unfold aOp callOf; dsimp only; cases e : F.ev f <;> rfl
theorem ex_append (x y : Operand) (s t : TypeId) : aOp P F H ⟨d, .call ⟨.builtin .append, #[x, y], #[s, t]⟩, ty, pos, af, g⟩ k = @appendK P H s t (F.ev x) (F.ev y) ⟨k⟩ := _root_.id rfl
variable {ops : Array Oper} {rest : List Oper} {K : AF → AS → Prop}
theorem ex_nil : aList P ops [] F H K = K F H := _root_.id rfl
theorem ex_cons {op : Op} : aList P ops (⟨d, op, ty, pos, af, none⟩ :: rest) F H K = aOp P F H ⟨d, op, ty, pos, af, none⟩ fun q H' => aList P ops rest (F.put d q) H' K := _root_.id rfl
def guardK (p : PV) (want : Bool) [A : Kont Prop] [B : Kont Prop] : Prop := match guardOf p with
 | some (some b) => @gcond (b == want) A B
 | some none => B.run
 | none => False
@[simp] theorem guardK_bool (b want : Bool) (A B : Prop) : @guardK (.val (.bool b)) want ⟨A⟩ ⟨B⟩ = @gcond (b == want) ⟨A⟩ ⟨B⟩ := _root_.id rfl
@[simp] theorem guardK_undef (want : Bool) (A B : Prop) : @guardK (.val undef) want ⟨A⟩ ⟨B⟩ = B := _root_.id rfl
theorem ex_guard {op : Op} (j : Nat) (want : Bool) : aList P ops (⟨d, op, ty, pos, af, some (j, want)⟩ :: rest) F H K = @obind _ ((ops[j]?).bind (·.dst)) ⟨fun t => @guardK (F t) want ⟨aList P ops (⟨d, op, ty, pos, af, none⟩ :: rest) F H K⟩ ⟨aList P ops rest (F.put d (.val undef)) H K⟩⟩ := by
 simp only [aList]
 cases e : (ops[j]?).bind (·.dst) with
 | none => rfl
 | some t =>
  simp only [obind_some]
  have this : ∀ k, aOp P F H ⟨d, op, ty, pos, af, some (j, want)⟩ k = aOp P F H ⟨d, op, ty, pos, af, none⟩ k := fun k => by
   unfold aOp aPure; rfl
  rw [this]
  unfold guardK
  cases h : guardOf (F t) with
  | none => rfl
  | some o =>
   cases o with
   | none => rfl
   | some b => cases b <;> cases want <;> simp [aList]
variable {L : Nat → Prop} {late : List Nat}
def wkF (P : Program) (ops : Array Oper) (L : Nat → Prop) (late : List Nat) (o : Oper) (c : Ord) (F : AF) (H : AS) (K : AF → AS → Prop) : Prop :=
 match aPure P F o with
         | some q => aWalk P ops L late c (F.put o.dst q) H K
         | none => match o.op with
          | .load t a => match F.ev a with
           | .rptr _ cells => match partOf P t cells 0 with
            | some q => aWalk P ops L late c (F.put o.dst q) H K
            | none => False
           | .ptr id vl row off => match aload P H t (.ptr id vl row off) with
            | some q => L id ∧ aWalk P ops L late c (F.put o.dst q) H K
            | none => False
           | _ => False
          | .call { callee := .value f, args, .. } => match F.ev f with
           | .func g caps => Ask P L H g (args.toList.map F.ev ++ caps) fun q => aWalk P ops L late c (F.put o.dst q) H K
           | _ => False
          | .binOp op t x y _ => match op, aNilTest P t (F.ev x) (F.ev y) with
           | .eql, [b] => (y matches .const _) = true ∧ aWalk P ops L late c (F.put o.dst (.val (.bool b))) H K
           | .neq, [b] => (y matches .const _) = true ∧ aWalk P ops L late c (F.put o.dst (.val (.bool (!b)))) H K
           | _, _ => False
          | _ => False
theorem wk_done : aWalk P ops L late .done F H K = K F H := _root_.id rfl
theorem wk_free (i : Nat) (c : Ord) : aWalk P ops L late (.free i c) F H K = @obind _ ops[i]? ⟨fun o => @obind _ (aWanted ops F o) ⟨fun b => @gcond b ⟨wkF P ops L late o c F H K⟩ ⟨aWalk P ops L late c (F.put o.dst (.val undef)) H K⟩⟩⟩ := by
 simp only [aWalk]
 cases e : ops[i]? with
 | none => rfl
 | some o =>
  simp only [obind_some]
  cases e2 : aWanted ops F o with
  | none => rfl
  | some b => cases b <;> rfl
theorem aStep_eq (i : Nat) (k : AF → AS → Prop) : aStep P ops i F H k = @oelse _ ops[i]? ⟨fun o => @obind _ (aWanted ops F o) ⟨fun b => @gcond b ⟨aOp P F H o fun q H' => k (F.put o.dst q) H'⟩ ⟨k (F.put o.dst (.val undef)) H⟩⟩⟩ ⟨k F H⟩ := by
 unfold aStep
 cases e : ops[i]? with
 | none => rfl
 | some o =>
  simp only [oelse_some]
  cases e2 : aWanted ops F o with
  | none => rfl
  | some b => cases b <;> rfl
theorem wk_sole (i : Nat) (c : Ord) : aWalk P ops L late (.sole i c) F H K = @oelse _ ops[i]? ⟨fun o => @obind _ (aWanted ops F o) ⟨fun b => @gcond b ⟨aOp P F H o fun q H' => Keeps L late i H H' ∧ aWalk P ops L late c (F.put o.dst q) H' K⟩ ⟨Keeps L late i H H ∧ aWalk P ops L late c (F.put o.dst (.val undef)) H K⟩⟩⟩ ⟨Keeps L late i H H ∧ aWalk P ops L late c F H K⟩ := by
 simp only [aWalk, aStep_eq]
theorem wanted_none {op : Op} : aWanted ops F ⟨d, op, ty, pos, af, none⟩ = some true := _root_.id rfl
def wantOf (p : PV) (want : Bool) : Option Bool := match guardOf p with
 | some (some b) => some (b == want)
 | some none => some false
 | none => none
@[simp] theorem wantOf_bool (b want : Bool) : wantOf (.val (.bool b)) want = some (b == want) := rfl
@[simp] theorem wantOf_undef (want : Bool) : wantOf (.val undef) want = some false := rfl
theorem wanted_some {op : Op} (j : Nat) (want : Bool) : aWanted ops F ⟨d, op, ty, pos, af, some (j, want)⟩ = ((ops[j]?).bind (·.dst)).bind fun t => wantOf (F t) want := by
 unfold aWanted wantOf; dsimp only; cases e : (ops[j]?).bind (·.dst) <;> rfl
theorem wk_pure {o : Oper} {c : Ord} {x : Option PV} (h : aPure P F o = x) (hk : match o.op with | .load .. | .binOp .. | .call { callee := .value _, .. } => False | _ => True) : wkF P ops L late o c F H K = @obind _ x ⟨fun q => aWalk P ops L late c (F.put o.dst q) H K⟩ := by
 obtain ⟨dst, op, t, po, aft, gu⟩ := o
 subst h
 unfold wkF obind
 cases e : aPure P F ⟨dst, op, t, po, aft, gu⟩ with
 | some q => rfl
 | none =>
  cases op <;> first | rfl | exact hk.elim | skip
  rename_i c
  obtain ⟨callee, args, tys⟩ := c
  cases callee <;> first | rfl | exact hk.elim
theorem wk_move (x : Operand) (c : Ord) : wkF P ops L late ⟨d, .move x, ty, pos, af, g⟩ c F H K = @strict _ (F.ev x) ⟨fun q => aWalk P ops L late c (F.put d q) H K⟩ := _root_.id rfl
theorem wk_assign (x : Operand) (c : Ord) : wkF P ops L late ⟨d, .assign x, ty, pos, af, g⟩ c F H K = @strict _ (F.ev x) ⟨fun q => aWalk P ops L late c (F.put d q) H K⟩ := _root_.id rfl
theorem wk_pick (t a b : Operand) (c : Ord) : wkF P ops L late ⟨d, .pick t a b, ty, pos, af, g⟩ c F H K = @boolOf (F.ev t) ⟨fun t => @strict _ (PV.sel t (F.ev a) (F.ev b)) ⟨fun q => aWalk P ops L late c (F.put d q) H K⟩⟩ := by
 rw [wk_pure rfl trivial]; simp only [aPure]; unfold boolOf strict; split <;> simp_all
theorem wk_build (t : TypeId) (ps : Array (Nat × Operand)) (c : Ord) : wkF P ops L late ⟨d, .build t ps, ty, pos, af, g⟩ c F H K = @obind _ (aBuild P t (ps.toList.map fun x => (x.1, F.ev x.2))) ⟨fun q => aWalk P ops L late c (F.put d q) H K⟩ := wk_pure rfl trivial
theorem wk_nilCheck (x : Operand) (c : Ord) : wkF P ops L late ⟨d, .nilCheck x, ty, pos, af, g⟩ c F H K = @obind _ (match F.ev x with
  | .ptr id vl row off => some (.ptr id vl row off)
  | .rptr c cells => some (.rptr c cells)
  | .func f caps => some (.func f caps)
  | .iface t p => some (.iface t p)
  | _ => none) ⟨fun q => aWalk P ops L late c (F.put d q) H K⟩ := wk_pure rfl trivial
theorem wk_unOp (op : UnOp) (t : TypeId) (x : Operand) (c : Ord) : wkF P ops L late ⟨d, .unOp op t x, ty, pos, af, g⟩ c F H K = @obind _ (aUn op (F.ev x)) ⟨fun q => aWalk P ops L late c (F.put d q) H K⟩ := wk_pure rfl trivial
theorem wk_convert (s t : TypeId) (x : Operand) (c : Ord) : wkF P ops L late ⟨d, .convert s t x, ty, pos, af, g⟩ c F H K = @obind _ (aConvert P s t (F.ev x)) ⟨fun q => aWalk P ops L late c (F.put d q) H K⟩ := wk_pure rfl trivial
theorem wk_slice (t : TypeId) (x : Operand) (lo hi : Option Operand) (c : Ord) : wkF P ops L late ⟨d, .slice t x lo hi none, ty, pos, af, g⟩ c F H K = @obind _ (aCutOp P t (F.ev x) (lo.map F.ev) (hi.map F.ev)) ⟨fun q => aWalk P ops L late c (F.put d q) H K⟩ := wk_pure rfl trivial
theorem wk_fieldAddr (t : TypeId) (x : Operand) (i : Nat) (c : Ord) : wkF P ops L late ⟨d, .fieldAddr t x i, ty, pos, af, g⟩ c F H K = @obind _ (aFieldAddr P t (F.ev x) i) ⟨fun q => aWalk P ops L late c (F.put d q) H K⟩ := wk_pure rfl trivial
theorem wk_field (t : TypeId) (x : Operand) (i : Nat) (c : Ord) : wkF P ops L late ⟨d, .field t x i, ty, pos, af, g⟩ c F H K = @obind _ (aField P t (F.ev x) i) ⟨fun q => aWalk P ops L late c (F.put d q) H K⟩ := wk_pure rfl trivial
theorem wk_indexAddr (t : TypeId) (x i : Operand) (c : Ord) : wkF P ops L late ⟨d, .indexAddr t x i, ty, pos, af, g⟩ c F H K = @obind _ (aIndexAddr P t (F.ev x) (F.ev i)) ⟨fun q => aWalk P ops L late c (F.put d q) H K⟩ := wk_pure rfl trivial
theorem wk_index (t : TypeId) (x i : Operand) (c : Ord) : wkF P ops L late ⟨d, .index t x i, ty, pos, af, g⟩ c F H K = @obind _ (aIndex P t (F.ev x) (F.ev i)) ⟨fun q => aWalk P ops L late c (F.put d q) H K⟩ := wk_pure rfl trivial
theorem wk_extract (x : Operand) (i : Nat) (c : Ord) : wkF P ops L late ⟨d, .extract x i, ty, pos, af, g⟩ c F H K = @obind _ (aExtract (F.ev x) i) ⟨fun q => aWalk P ops L late c (F.put d q) H K⟩ := wk_pure rfl trivial
theorem wk_sliceToArrayPointer (t : TypeId) (x : Operand) (c : Ord) : wkF P ops L late ⟨d, .sliceToArrayPointer t x, ty, pos, af, g⟩ c F H K = @obind _ (aArrayAt P t (F.ev x)) ⟨fun q => aWalk P ops L late c (F.put d q) H K⟩ := wk_pure rfl trivial
theorem wk_min (x y : Operand) (ts : Array TypeId) (c : Ord) : wkF P ops L late ⟨d, .call ⟨.builtin .min, #[x, y], ts⟩, ty, pos, af, g⟩ c F H K = @obind _ (amin (F.ev x) (F.ev y)) ⟨fun q => aWalk P ops L late c (F.put d q) H K⟩ := wk_pure rfl trivial
theorem wk_len (x : Operand) (t : TypeId) (c : Ord) : wkF P ops L late ⟨d, .call ⟨.builtin .len, #[x], #[t]⟩, ty, pos, af, g⟩ c F H K = @obind _ (aLen P t (F.ev x)) ⟨fun q => aWalk P ops L late c (F.put d q) H K⟩ := wk_pure rfl trivial
def loadK (P : Program) (L : Nat → Prop) (H : AS) (t : TypeId) (p : PV) [k : Kont (PV → Prop)] : Prop := match p with
 | .rptr _ cells => obind (partOf P t cells 0)
 | .ptr id vl row off => L id ∧ obind (aload P H t (.ptr id vl row off))
 | _ => False
@[simp] theorem loadK_rptr (t : TypeId) (c : Nat) (cells : List PV) (k : PV → Prop) : @loadK P L H t (.rptr c cells) ⟨k⟩ = @obind _ (partOf P t cells 0) ⟨k⟩ := _root_.id rfl
@[simp] theorem loadK_ptr (t : TypeId) (id vl row off : Nat) (k : PV → Prop) : @loadK P L H t (.ptr id vl row off) ⟨k⟩ = (L id ∧ @obind _ (aload P H t (.ptr id vl row off)) ⟨k⟩) := _root_.id rfl
theorem wk_load (t : TypeId) (a : Operand) (c : Ord) : wkF P ops L late ⟨d, .load t a, ty, pos, af, g⟩ c F H K = @loadK P L H t (F.ev a) ⟨fun q => aWalk P ops L late c (F.put d q) H K⟩ := by
 unfold wkF loadK
 simp only [aPure]
 cases e : F.ev a <;> simp only []
 rename_i id vl row off
 cases e2 : aload P H t (.ptr id vl row off) <;> simp
 rename_i cc cells
 cases e2 : partOf P t cells 0 <;> simp
theorem wk_call (f : Operand) (args : Array Operand) (tys : Array TypeId) (c : Ord) : wkF P ops L late ⟨d, .call ⟨.value f, args, tys⟩, ty, pos, af, g⟩ c F H K = @funcOf (F.ev f) ⟨fun h caps => @askK P L H h (args.toList.map F.ev ++ caps) ⟨fun q => aWalk P ops L late c (F.put d q) H K⟩⟩ := by
 unfold wkF funcOf; simp only [aPure]; cases F.ev f <;> rfl
theorem wk_binOp (op : BinOp) (t : TypeId) (x y : Operand) (yt : TypeId) (c : Ord) : wkF P ops L late ⟨d, .binOp op t x y yt, ty, pos, af, g⟩ c F H K = @oelse _ (aBin P op t (F.ev x) (F.ev y)) ⟨fun q => aWalk P ops L late c (F.put d q) H K⟩ ⟨match op, aNilTest P t (F.ev x) (F.ev y) with
      | .eql, [b] => (y matches .const _) = true ∧ aWalk P ops L late c (F.put d (.val (.bool b))) H K
      | .neq, [b] => (y matches .const _) = true ∧ aWalk P ops L late c (F.put d (.val (.bool (!b)))) H K
      | _, _ => False⟩ := by
 unfold wkF oelse
 simp only [aPure]
 cases e : aBin P op t (F.ev x) (F.ev y) <;> rfl
theorem put_at (F : AF) (e t : Nat) (p : PV) : (F.put (some e) p) t = if t = e then p else F t := _root_.id rfl
end
theorem T_rg {P : Program} {n b id : Nat} {Q : Exit → AF → AS → Prop} {l : List Oper} {F : AF} {H : AS} (h : aList P l.toArray l F H (Q .normal)) (hok : regionOk n l.toArray = true := by kernel_rfl) : T P n b (.region id l.toArray false) F H Q := T_region hok h
theorem T_sr {P : Program} {n b id : Nat} {Q : Exit → AF → AS → Prop} {l : List Oper} {y : Code} {F : AF} {H : AS} (h : ∀ K : AF → AS → Prop, (∀ F H, T P n b y F H Q → K F H) → aList P l.toArray l F H K) (hok : regionOk n l.toArray = true := by kernel_rfl) : T P n b (.seq (.region id l.toArray false) y) F H Q := T_seqk fun K hK => T_region hok (h K hK)
theorem T_condT {P : Program} {n b : Nat} {Q : Exit → AF → AS → Prop} {c : Operand} {x y : Code} {F : AF} {H : AS} (hc : F.ev c = .val (.bool true)) (h : T P n b x F H Q) : T P n b (.cond c x y) F H Q := T_cond hc (fun _ => h) fun e => by cases e
theorem T_condF {P : Program} {n b : Nat} {Q : Exit → AF → AS → Prop} {c : Operand} {x y : Code} {F : AF} {H : AS} (hc : F.ev c = .val (.bool false)) (h : T P n b y F H Q) : T P n b (.cond c x y) F H Q := T_cond hc (fun e => by cases e) fun _ => h
set_option linter.unusedSimpArgs false
def Gh.start (W : World) (c : Nat) : Gh := ⟨fun _ _ => none, fun _ => none, fun b => (W.heap[b]?).map fun o => (c, o), 0, W⟩
def AS.start (c : Nat) : AS := ⟨fun _ => none, fun _ => none, 0, c⟩
theorem rel_start (W : World) (c d : Nat) (hamb : ambient W) : Rel (Gh.start W c) (AS.start d) W := by
 refine ⟨rfl, ?_, ?_, ?_, ?_, ?_, ?_, ?_, ?_, rfl, rfl, rfl, hamb, fun b o e => ⟨c, by simp [Gh.start] at e ⊢; exact e⟩⟩
 intro b c' o h
 simp [Gh.start] at h
 exact h.1
 all_goals simp [Gh.start, AS.start]
theorem below_of_rel {W w' : World} {c : Nat} {G' : Gh} {H' : AS} (hle : (Gh.start W c).le G') (hr : Rel G' H' w') : RowKit.Below W.heap.size W w' := by
 have hb : ∀ k, k < W.heap.size → w'.heap[k]? = W.heap[k]? := fun k hk => by
  have e : (Gh.start W c).ro k = some (c, W.heap[k]) := by simp [Gh.start, hk]
  rw [hr.ro k c _ (hle.ro _ _ e)]; simp [hk]
 refine ⟨?_, ?_, ?_, ?_, hb⟩
 rw [hr.os, hle.w0]; rfl
 rw [hr.tape, hle.w0]; rfl
 rw [hr.out, hle.w0]; rfl
 rcases Nat.lt_or_ge w'.heap.size W.heap.size with h | h
 have := hb w'.heap.size h
 rw [Array.getElem?_eq_none (Nat.le_refl _)] at this
 simp [h] at this
 exact h
def RepRow (G : Gh) (l : List PV) (cs : List Value) : Prop :=
 l.length = cs.length ∧ (∀ (j : Nat) (p : PV) (v : Value), l[j]? = some p → cs[j]? = some v → Rep G p v) ∧ ∀ (j : Nat) (v : Value), cs[j]? = some v → v.oneCell' = true
theorem RepRow.nil {G : Gh} : RepRow G [] [] := ⟨rfl, fun j p v h => by simp at h, fun j v h => by simp at h⟩
theorem RepRow.one {G : Gh} {p : PV} {v : Value} (h : Rep G p v) (ho : v.oneCell' = true) : RepRow G [p] [v] :=
 ⟨rfl, fun j q u hq hu => by cases j <;> simp at hq hu; subst hq; subst hu; exact h, fun j u hu => by cases j <;> simp at hu; subst hu; exact ho⟩
theorem RepRow.append {G : Gh} {l l' : List PV} {cs cs' : List Value} (h : RepRow G l cs) (h' : RepRow G l' cs') : RepRow G (l ++ l') (cs ++ cs') := by
 obtain ⟨a1, a2, a3⟩ := h
 obtain ⟨b1, b2, b3⟩ := h'
 refine ⟨by simp [a1, b1], fun j p v hp hv => ?_, fun j v hv => ?_⟩
 rcases Nat.lt_or_ge j l.length with hj | hj
 rw [List.getElem?_append_left hj] at hp
 rw [List.getElem?_append_left (by omega)] at hv
 exact a2 j p v hp hv
 rw [List.getElem?_append_right hj] at hp
 rw [List.getElem?_append_right (by omega)] at hv
 rw [← a1] at hv
 exact b2 _ p v hp hv
 rcases Nat.lt_or_ge j cs.length with hj | hj
 rw [List.getElem?_append_left hj] at hv; exact a3 j v hv
 rw [List.getElem?_append_right hj] at hv; exact b3 _ v hv
section
variable {H : Type} {enc : TypeId × Value → H} {P : Program} {W : World} {c : Nat}
def Reads (enc : TypeId × Value → H) (P : Program) (W : World) (c : Nat) (t : TypeId) {α : Type} (row : α → List PV) (ok : α → Prop) : Prop :=
 ∀ (fuel : Nat) (cs : List Value) (x : DataW H × List MemPlace), DataW.trod enc P W 0 (fun _ => true) true fuel t cs = some x → (∀ n ∈ x.1.weights P t, n ≤ reachBytes) →
  ∃ a, RepRow (Gh.start W c) (row a) cs ∧ ok a
theorem Reads.map {t : TypeId} {α β : Type} {row : α → List PV} {ok : α → Prop} {row' : β → List PV} {ok' : β → Prop} (h : Reads enc P W c t row ok) (f : α → β) (hr : ∀ a, ok a → row' (f a) = row a) (ho : ∀ a, ok a → ok' (f a)) : Reads enc P W c t row' ok' :=
 fun fuel cs x hx hw => let ⟨a, h1, h2⟩ := h fuel cs x hx hw; ⟨f a, by rw [hr a h2]; exact h1, ho a h2⟩
theorem reads_int {t : TypeId} {k : IntKind} (ht : P.underlying t = some (.int k)) : Reads enc P W c t (fun n : Int => [.val (.int k n)]) (fun n => (Lit.int k n).wf = true) := fun fuel cs x hx _ => by
 cases fuel with
 | zero => simp [DataW.trod] at hx
 | succ m =>
  unfold DataW.trod at hx
  rw [ht] at hx
  split at hx <;> simp_all
  rename_i n _ hk
  subst hk
  obtain ⟨hw, rfl⟩ := hx
  exact ⟨n, .one (.val _) rfl, hw.2⟩
theorem reads_bool {t : TypeId} (ht : P.underlying t = some .bool) : Reads enc P W c t (fun b : Bool => [.val (.bool b)]) (fun _ => True) := fun fuel cs x hx _ => by
 cases fuel with
 | zero => simp [DataW.trod] at hx
 | succ m =>
  unfold DataW.trod at hx
  rw [ht] at hx
  split at hx <;> simp_all
  rename_i b
  cases b
  ·exact .inl (.one (.val _) rfl)
  ·exact .inr (.one (.val _) rfl)
theorem reads_string {t : TypeId} (ht : P.underlying t = some .string) : Reads enc P W c t (fun s : ByteArray => [.val (.string s)]) (fun s => s.size ≤ reachBytes) := fun fuel cs x hx hw => by
 cases fuel with
 | zero => simp [DataW.trod] at hx
 | succ m =>
  unfold DataW.trod at hx
  rw [ht] at hx
  split at hx <;> simp_all
  rename_i s
  obtain ⟨_, rfl⟩ := hx
  exact ⟨s, .one (.val _) rfl, by simpa [DataW.weights] using hw⟩
def ReadsF (enc : TypeId × Value → H) (P : Program) (W : World) (c : Nat) (fs : List Field) (o : Nat) {α : Type} (row : α → List PV) (ok : α → Prop) : Prop :=
 ∀ (fuel : Nat) (cs : List Value) (xs : List (DataW H × List MemPlace)), (fs.mapM fun f => DataW.trod enc P W 0 (fun _ => true) true fuel f.type ((cs.drop f.offset).take (P.cellsOf f.type))) = some xs →
  (∀ n ∈ DataW.weightsEach P (fs.map (·.type)) (xs.map (·.1)), n ≤ reachBytes) → cs.length = o + ((fs.map fun f => P.cellsOf f.type).sum) → ∃ a, RepRow (Gh.start W c) (row a) (cs.drop o) ∧ ok a
theorem readsF_nil {o : Nat} : ReadsF enc P W c [] o (fun _ : Unit => []) (fun _ => True) := fun fuel cs xs _ _ hl => ⟨(), by
 rw [List.drop_eq_nil_of_le (by simpa using Nat.le_of_eq hl)]; exact .nil, trivial⟩
theorem readsF_cons {f : Field} {fs : List Field} {o n : Nat} {α β : Type} {row : α → List PV} {ok : α → Prop} {row' : β → List PV} {ok' : β → Prop} (ho : f.offset = o) (hn : P.cellsOf f.type = n)
  (h : Reads enc P W c f.type row ok) (h' : ReadsF enc P W c fs (o + n) row' ok') : ReadsF enc P W c (f :: fs) o (fun x : α × β => row x.1 ++ row' x.2) (fun x => ok x.1 ∧ ok' x.2) := fun fuel cs xs hx hw hl => by
 rw [List.mapM_cons] at hx
 simp only [Option.bind_eq_bind, Option.bind_eq_some_iff, Option.pure_def, Option.some.injEq] at hx
 obtain ⟨y, hy, ys, hys, rfl⟩ := hx
 simp only [List.map_cons, DataW.weightsEach, List.mem_append] at hw
 obtain ⟨a, r1, k1⟩ := h fuel _ y hy fun m hm => hw m (.inl hm)
 simp only [List.map_cons, List.sum_cons, hn] at hl
 obtain ⟨b, r2, k2⟩ := h' fuel cs ys hys (fun m hm => hw m (.inr hm)) (by omega)
 refine ⟨(a, b), ?_, k1, k2⟩
 have e : cs.drop o = (cs.drop o).take n ++ cs.drop (o + n) := by rw [← List.drop_drop, List.take_append_drop]
 rw [e]
 rw [ho, hn] at r1
 exact r1.append r2
theorem reads_struct {t : TypeId} {fs : Array Field} {α : Type} {row : α → List PV} {ok : α → Prop} (ht : P.underlying t = some (.struct fs)) (hs : P.cellsOf t = (fs.toList.map fun f => P.cellsOf f.type).sum) (h : ReadsF enc P W c fs.toList 0 row ok) :
  Reads enc P W c t row ok := fun fuel cs x hx hw => by
 cases fuel with
 | zero => simp [DataW.trod] at hx
 | succ m =>
  unfold DataW.trod at hx
  rw [ht] at hx
  dsimp only at hx
  split at hx
  ·rename_i hl
   simp only [Option.map_eq_some_iff] at hx
   obtain ⟨xs, hxs, rfl⟩ := hx
   obtain ⟨a, h1, h2⟩ := h m cs xs hxs (fun n hn => hw n (by simpa [DataW.weights, ht] using hn)) (by omega)
   exact ⟨a, by simpa using h1, h2⟩
  ·cases hx
theorem cells?_get {a : Addr} {n : Nat} {cs : List Value} (h : W.cells? 0 a n = some cs) : cs.length = n ∧ ∀ j, j < n → W.cell? (a.add j) = cs[j]? := by
 unfold World.cells? at h
 rw [if_pos (Nat.zero_le _)] at h
 exact ⟨by simpa using mapM_some_length h, fun j hj => mapM_some_get h j j (by simp [hj])⟩
theorem weightsAll_mem {e : TypeId} {n : Nat} : ∀ {ds : List (DataW H)} {d : DataW H}, d ∈ ds → n ∈ d.weights P e → n ∈ DataW.weightsAll P e ds
 | d0 :: ds, d, hd, hn => by
  rw [DataW.weightsAll, List.mem_append]
  rcases List.mem_cons.1 hd with rfl | hd
  ·exact .inl hn
  ·exact .inr (weightsAll_mem hd hn)
theorem reads_slice {t e : TypeId} {α : Type} {row : α → List PV} {ok : α → Prop} {sz : Nat} (ht : P.underlying t = some (.slice e)) (hsz : P.cellsOf e = sz) (h0 : 0 < sz) (h : Reads enc P W c e row ok) :
  Reads enc P W c t (fun xs : List α => [PV.sl c sz (xs.map row)]) (fun xs => xs.length * P.bytesOf e ≤ reachBytes ∧ ∀ x ∈ xs, ok x) := fun fuel cs x hx hw => by
 rcases DataW.trod_slice ht hx with ⟨rfl, rfl⟩ | ⟨a, len, cap, elems, rest, n, rfl, rfl, rfl, _, hle, hmax, hlen, hel, -, -⟩
 ·exact ⟨[], .one .nilSlice rfl, by simp, by simp⟩
 ·have hwe : ∀ (i : Nat) (y : DataW H × List MemPlace), elems[i]? = some y → ∀ n ∈ y.1.weights P e, n ≤ reachBytes := fun i y hy n hn => hw n (by
   simp only [DataW.weights, ht, List.mem_cons, List.mem_append]
   exact .inr (.inl (weightsAll_mem (List.mem_map.2 ⟨y, List.mem_of_getElem? hy, rfl⟩) hn)))
  have key : ∀ i, i < len → ∃ (ci : List Value) (x : α), W.cells? 0 (a.add (i * sz)) sz = some ci ∧ RepRow (Gh.start W c) (row x) ci ∧ ok x := fun i hi => by
   have h1 := hel i hi
   rw [hsz] at h1
   cases hc : W.cells? 0 (a.add (i * sz)) sz with
   | none => rw [hc] at h1; simp at h1; omega
   | some ci =>
    rw [hc] at h1
    simp only [Option.bind_some] at h1
    have hi' : i < elems.length := by omega
    rw [List.getElem?_eq_getElem hi'] at h1
    obtain ⟨x, k1, k2⟩ := h n ci _ h1 (hwe i _ (List.getElem?_eq_getElem hi'))
    exact ⟨ci, x, rfl, k1, k2⟩
  have hbytes : len * P.bytesOf e ≤ reachBytes := by
   have := hw ((elems.length + rest.length) * P.bytesOf e) (by simp [DataW.weights, ht])
   refine Nat.le_trans (Nat.mul_le_mul_right _ ?_) this
   omega
  by_cases hz : len = 0
  ·subst hz
   exact ⟨[], .one .emptySlice rfl, by simp, by simp⟩
  ·have hspot : a = ⟨a.block, a.off, none⟩ := by
    obtain ⟨ci, x, hc, -, -⟩ := key 0 (by omega)
    have := (cells?_get hc).2 0 h0
    simp [Addr.add] at this
    have hlen' := (cells?_get hc).1
    rw [List.getElem?_eq_getElem (by omega)] at this
    unfold World.cell? at this
    split at this
    ·split at this
     ·cases this
     ·rename_i hs
      obtain ⟨b, o, s⟩ := a
      cases s with
      | none => rfl
      | some s => simp at hs
    ·cases this
   obtain ⟨b, o, s⟩ := a
   obtain rfl : s = none := by simpa using hspot
   clear hspot
   let ex : Fin len → α := fun i => Classical.choose (Classical.choose_spec (key i.1 i.2))
   have hxs : ∀ i : Fin len, ∃ ci, W.cells? 0 ((⟨b, o, none⟩ : Addr).add (i.1 * sz)) sz = some ci ∧ RepRow (Gh.start W c) (row (ex i)) ci ∧ ok (ex i) := fun i => ⟨_, Classical.choose_spec (Classical.choose_spec (key i.1 i.2))⟩
   refine ⟨List.ofFn ex, ?_, by simpa using hbytes, fun x hx => ?_⟩
   ·have hrow : ∀ (i : Nat) (r : List PV), ((List.ofFn ex).map row)[i]? = some r → ∃ hi : i < len, r = row (ex ⟨i, hi⟩) := fun i r hr => by
     rw [List.getElem?_map, List.getElem?_ofFn] at hr
     split at hr
     ·rename_i hi; simp at hr; exact ⟨hi, hr.symm⟩
     ·simp at hr
    have hcell : ∀ (i : Nat) (r : List PV) (j : Nat) (p : PV), ((List.ofFn ex).map row)[i]? = some r → r[j]? = some p → ∃ v, (Gh.start W c).cell c b (o + i * sz + j) = some v ∧ v.oneCell' = true ∧ Rep (Gh.start W c) p v := fun i r j p hr hp => by
     obtain ⟨hi, rfl⟩ := hrow i r hr
     obtain ⟨ci, hc, ⟨q1, q2, q3⟩, -⟩ := hxs ⟨i, hi⟩
     have hj : j < sz := by
      have := (List.getElem?_eq_some_iff.1 hp).1
      rw [q1, (cells?_get hc).1] at this
      exact this
     have hcj := (cells?_get hc).2 j hj
     have hjl : j < ci.length := by rw [(cells?_get hc).1]; exact hj
     rw [List.getElem?_eq_getElem hjl] at hcj
     refine ⟨ci[j], ?_, q3 j _ (List.getElem?_eq_getElem hjl), q2 j p _ hp (List.getElem?_eq_getElem hjl)⟩
     have e : ((⟨b, o, none⟩ : Addr).add (i * sz)).add j = ⟨b, o + i * sz + j, none⟩ := by
      simp only [Addr.add]; split <;> split <;> simp_all
     rw [e] at hcj
     unfold World.cell? at hcj
     unfold Gh.cell Gh.start
     dsimp only at hcj ⊢
     split at hcj
     ·rename_i vs t f hh
      rw [hh]
      simpa using hcj
     ·cases hcj
    refine .one ?_ rfl
    have hne : ((List.ofFn ex).map row) ≠ [] := by simp; omega
    rw [show PV.sl c sz ((List.ofFn ex).map row) = .slice c sz ((List.ofFn ex).map row) by cases e : (List.ofFn ex).map row with | nil => exact absurd e hne | cons => rfl]
    have hL : ((List.ofFn ex).map row).length = len := by simp
    conv => rhs; rw [← hL]
    refine .slice (fun i j => ((Gh.start W c).cell c b (o + i * sz + j)).getD undef) (by rw [hL]; exact hle) (fun i r hr => ?_) (fun i r j p hr hp => ?_) (fun i r j p hr hp => ?_) (fun i r j p hr hp => ?_)
    ·obtain ⟨hi, rfl⟩ := hrow i r hr
     obtain ⟨ci, hc, ⟨q1, -, -⟩, -⟩ := hxs ⟨i, hi⟩
     rw [q1, (cells?_get hc).1]
    all_goals (obtain ⟨v, e1, e2, e3⟩ := hcell i r j p hr hp; simp [e1, e2, e3])
   ·rw [List.mem_ofFn] at hx
    obtain ⟨i, rfl⟩ := hx
    obtain ⟨ci, -, -, h3⟩ := hxs i
    exact h3
end
section
variable {P : Program} {H : AS}
def OwesO (P : Program) (fn : Func) (k : PV → AS → Prop) (e : Exit) (F' : AF) (H' : AS) : Prop :=
 (e = .normal ∨ e = .ret) ∧ match aResults P F' H' fn.results.toList with
  | some rs => k (packed rs) H'
  | none => False
theorem ACalls_open {f : FuncId} {fn : Func} {c : Code} {args : List PV} {k : PV → AS → Prop} (hf : P.funcs[f]? = some fn) (hb : fn.body = some c) (hname : (fn.name == "runtime.NumGoroutine") = false) (hargs : args.length ≤ fn.ntmps)
  (h : WF H → (∀ p ∈ args, Below H.next p) → T P fn.ntmps H.next c (frame0 args) H (OwesO P fn k)) : ACalls P f args H k := by
 refine .inl ⟨⟨fn, hf, by rw [hb]; rfl, hname⟩, fun G w vs hr hall => ?_⟩
 have hlen := hall.get.1
 have hbel : ∀ p ∈ args, Below H.next p := fun p hp => by
  obtain ⟨j, hj⟩ := List.getElem?_of_mem hp
  have hlt : j < vs.length := by rw [← hlen]; exact (List.getElem?_eq_some_iff.1 hj).1
  exact (hall.get.2 j p vs[j] hj (List.getElem?_eq_getElem hlt)).isBelow (fun i l x e => by rw [← hr.next]; exact hr.dom i l x e) (fun i x e => by rw [← hr.next]; exact hr.mdom i x e)
 have hT := h hr.wf hbel G G w _ hr.dom' (.refl G) hr (by
  have := frame0_rep hall (fn.ntmps - vs.length)
  rwa [show vs.length + (fn.ntmps - vs.length) = fn.ntmps by omega] at this)
 refine calls_of_wp hf hb ?_
 rw [show vs.toArray.size = vs.length by simp]
 refine wp_mono hT ?_
 rintro e a' w' ⟨hfine, G', F', H', hle, hr', hF', hex, howe⟩
 split at howe
 rename_i rs hrs
 obtain ⟨us, hrun, hall'⟩ := aResults_sound hr' hF' _ _ hrs
 have hrep := packed_rep hall'
 have hres : (results fn a'.tmps).run P w' = .ok (if h : us.length = 1 then us[0]'(by omega) else .tuple us.toArray) w' := by
  unfold results
  rw [Array.mapM_eq_mapM_toList]
  show Sem.run P (Bind.bind (Bind.bind (fn.results.toList.mapM (resOf a'.tmps)) (pure ∘ List.toArray)) _) w' = _
  simp only [Sem.run_bind, hrun, Result.andThen_ok, Function.comp, Sem.run_pure]
  simp
 have fin : a'.defers = [] ∧ ∃ v, (results fn a'.tmps).run P w' = .ok v w' ∧ ∃ v' G' q H', Ending.returned v = .returned v' ∧ G.le G' ∧ Rel G' H' w' ∧ Rep G' q v' ∧ k q H' :=
  ⟨hF'.defers, _, hres, _, _, _, _, rfl, hle, hr', hrep, howe⟩
 rcases hex with rfl | rfl
 exact fin
 exact fin
 exact howe.elim
theorem owesO_one {fn : Func} {p : PV} {F' : AF} {H' : AS} {e : Exit} {k : PV → AS → Prop} (he : e = .normal ∨ e = .ret) (hr : aResults P F' H' fn.results.toList = some [p]) (hk : k p H') : OwesO P fn k e F' H' := by
 refine ⟨he, ?_⟩
 rw [hr]; exact hk
theorem OutIs.mk {lo id sz n : Nat} {H : AS} {rows : List (List PV)} (h1 : lo ≤ id) (h2 : id < H.next) (h3 : H.box id = some rows) (hn : rows.length = n) : OutIs lo H (.msl id n sz) sz rows := .inr ⟨id, h1, h2, by rw [hn], h3⟩
theorem OutIs.lower {lo lo' sz : Nat} {H : AS} {p : PV} {rows : List (List PV)} (h : OutIs lo H p sz rows) (hl : lo' ≤ lo) : OutIs lo' H p sz rows := by
 rcases h with ⟨rfl, rfl⟩ | ⟨id, h1, h2, h3, h4⟩
 exact .nil
 exact .inr ⟨id, by omega, h2, h3, h4⟩
theorem ACalls.of_nil {f : FuncId} {args args' : List PV} {k : PV → AS → Prop} (h : ACalls P f args H k) (ha : ∀ (G : Gh) (vs : List Value), RepAll G args' vs → RepAll G args vs) : ACalls P f args' H k := by
 rcases h with h | ⟨fn, e, h1, h2, h3, h4, h5, h⟩
 exact .inl ⟨h.1, fun G w vs hr hall => h.2 G w vs hr (ha G vs hall)⟩
 exact .inr ⟨fn, e, h1, h2, h3, h4, h5, fun G w vs hr hall => h G w vs hr (ha G vs hall)⟩
theorem ACalls.of_plain {f : FuncId} {fn : Func} {vs : List Value} {v : Value} (hf : P.funcs[f]? = some fn) (hb : fn.body.isSome = true) (hname : (fn.name == "runtime.NumGoroutine") = false)
  (h : ∀ w, Calls P f vs.toArray w fun e w' => e = .returned v ∧ w' = w) : ACalls P f (vs.map .val) H fun q H' => q = .val v ∧ H' = H := by
 refine .inl ⟨⟨fn, hf, hb, hname⟩, fun G w us hr hall => ?_⟩
 have e : us = vs := by
  have key : ∀ (vs us : List Value), RepAll G (vs.map .val) us → us = vs := by
   intro vs
   induction vs with
   | nil => intro us h; cases us with
    | nil => rfl
    | cons => exact h.elim
   | cons v vs ih => intro us h; cases us with
    | nil => exact h.elim
    | cons u us => rw [rep_val h.1, ih us h.2]
  exact key vs us hall
 subst e
 refine (h w).mono ?_
 rintro e w' ⟨rfl, rfl⟩
 exact ⟨v, G, .val v, H, rfl, .refl G, hr, .val v, rfl, rfl⟩
end
section
variable {P : Program} {H : AS}
theorem ACalls.frz {f : FuncId} {args : List PV} {k : PV → AS → Prop} (h : ACalls P f (frzVs H args).1 (frzVs H args).2 k) : ACalls P f args H k := by
 rcases h with h | ⟨fn, e, h1, h2, h3, h4, h5, h⟩
 refine .inl ⟨h.1, fun G w vs hr ha => ?_⟩
 obtain ⟨G1, le1, r1, p1⟩ := frzVs_sound args hr ha
 exact (h.2 G1 w vs r1 p1).mono fun _ _ ⟨v, G', q, H', e, l, r, p, hq⟩ => ⟨v, G', q, H', e, le1.trans l, r, p, hq⟩
 refine .inr ⟨fn, e, h1, h2, h3, h4, h5, fun G w vs hr ha => ?_⟩
 obtain ⟨G1, le1, r1, p1⟩ := frzVs_sound args hr ha
 obtain ⟨v, w', G', q, H', a, b, c, d, hq⟩ := h G1 w vs r1 p1
 exact ⟨v, w', G', q, H', a, le1.trans b, c, d, hq⟩
theorem ACalls.frz_out {f : FuncId} {lo sz : Nat} {p : PV} {rows : List (List PV)} {k : PV → AS → Prop} (hout : OutIs lo H p sz rows) (h : ∀ H1, Above lo H H1 → H1.next = H.next → H1.color = H.color → ACalls P f [PV.sl H.color sz rows] H1 k) : ACalls P f [p] H k := by
 refine ACalls.frz ?_
 rcases hout with ⟨rfl, rfl⟩ | ⟨id, h1, h2, rfl, h4⟩
 exact h H .refl rfl rfl
 have e : frzVs H [.msl id rows.length sz] = ([PV.sl H.color sz rows], H.kill id) := by simp [frzVs, frzV, _root_.Go.Abs.frz, h4]
 rw [e]
 exact h (H.kill id) (fun H0 h0 hext => AS.Ext.kill (by omega) hext) rfl rfl
theorem rep_nilS {G : Gh} {c sz : Nat} {v : Value} (h : Rep G (.val (.slice none 0 0)) v) : Rep G (PV.sl c sz []) v := by
 have := rep_val h
 subst this
 exact .nilSlice
end
set_option linter.unusedSimpArgs false
structure Run (p : Prop) : Prop where
 of ::
 run : p
structure Kt [k : Kont (AF → AS → Prop)] (F : AF) (H : AS) : Prop where
 of ::
 run : k.run F H
structure Kx (e : Exit) [k : Kont (Exit → AF → AS → Prop)] (F : AF) (H : AS) : Prop where
 of ::
 run : k.run e F H
structure Hid [k : Kont Prop] : Prop where
 of ::
 run : k.run
structure Gs (b : Bool) [A : Kont Prop] [B : Kont Prop] : Prop where
 of ::
 yes : b = true → A.run
 no : b = false → B.run
structure Gr (b : Bool) [A : Kont Prop] [B : Kont Prop] : Prop where
 of ::
 yes : b = true → Run A.run
 no : b = false → Run B.run
section
variable {k : AF → AS → Prop} {kx : Exit → AF → AS → Prop} {A B : Prop} {F : AF} {H : AS} {e : Exit} {b : Bool}
theorem Kt.mk (h : k F H) : @Kt ⟨k⟩ F H := @Kt.of ⟨k⟩ F H h
theorem Kt.get (h : @Kt ⟨k⟩ F H) : k F H := @Kt.run ⟨k⟩ F H h
theorem Kx.mk (h : kx e F H) : @Kx e ⟨kx⟩ F H := @Kx.of e ⟨kx⟩ F H h
theorem Kx.get (h : @Kx e ⟨kx⟩ F H) : kx e F H := @Kx.run e ⟨kx⟩ F H h
theorem Hid.mk (h : A) : @Hid ⟨A⟩ := @Hid.of ⟨A⟩ h
theorem Hid.get (h : @Hid ⟨A⟩) : A := @Hid.run ⟨A⟩ h
theorem Gs.mk (h : b = true → A) (h' : b = false → B) : @Gs b ⟨A⟩ ⟨B⟩ := @Gs.of b ⟨A⟩ ⟨B⟩ h h'
theorem Gs.t (h : @Gs b ⟨A⟩ ⟨B⟩) : b = true → A := @Gs.yes b ⟨A⟩ ⟨B⟩ h
theorem Gs.f (h : @Gs b ⟨A⟩ ⟨B⟩) : b = false → B := @Gs.no b ⟨A⟩ ⟨B⟩ h
theorem Gr.mk (h : b = true → Run A) (h' : b = false → Run B) : @Gr b ⟨A⟩ ⟨B⟩ := @Gr.of b ⟨A⟩ ⟨B⟩ h h'
theorem Gr.t (h : @Gr b ⟨A⟩ ⟨B⟩) : b = true → Run A := @Gr.yes b ⟨A⟩ ⟨B⟩ h
theorem Gr.f (h : @Gr b ⟨A⟩ ⟨B⟩) : b = false → Run B := @Gr.no b ⟨A⟩ ⟨B⟩ h
theorem Gs_true : @Gs true ⟨A⟩ ⟨B⟩ = @Hid ⟨A⟩ := propext ⟨fun h => .mk (h.t rfl), fun h => .mk (fun _ => h.get) fun e => by cases e⟩
theorem Gs_false : @Gs false ⟨A⟩ ⟨B⟩ = @Hid ⟨B⟩ := propext ⟨fun h => .mk (h.f rfl), fun h => .mk (fun e => by cases e) fun _ => h.get⟩
theorem gcond_Gr : @gcond b ⟨A⟩ ⟨B⟩ = @Gr b ⟨A⟩ ⟨B⟩ := by
 cases b
 exact propext ⟨fun h => .mk (fun e => nomatch e) (fun _ => ⟨h⟩), fun h => (h.f rfl).run⟩
 exact propext ⟨fun h => .mk (fun _ => ⟨h⟩) (fun e => nomatch e), fun h => (h.t rfl).run⟩
theorem Gr_true : @Gr true ⟨A⟩ ⟨B⟩ = A := propext ⟨fun h => (h.t rfl).run, fun h => .mk (fun _ => ⟨h⟩) (fun e => nomatch e)⟩
theorem Gr_false : @Gr false ⟨A⟩ ⟨B⟩ = B := propext ⟨fun h => (h.f rfl).run, fun h => .mk (fun e => nomatch e) (fun _ => ⟨h⟩)⟩
end
section
variable {P : Program} {n b : Nat} {F : AF} {H : AS} {Q : Exit → AF → AS → Prop}
theorem T_rgn {id : Nat} {l : List Oper} (h : Run (aList P l.toArray l F H (@Kt ⟨Q .normal⟩))) (hok : regionOk n l.toArray = true := by kernel_rfl) : T P n b (.region id l.toArray false) F H Q :=
 (T_region (Q := fun e F H => match e with | .normal => @Kt ⟨Q .normal⟩ F H | e => Q e F H) hok h.run).mono fun e F H _ hq => by
  cases e <;> first | exact hq.get | exact hq
theorem T_cd {c : Operand} {x y : Code} (h : Run (@boolOf (F.ev c) ⟨fun t => @Gs t ⟨T P n b x F H Q⟩ ⟨T P n b y F H Q⟩⟩)) : T P n b (.cond c x y) F H Q := by
 have h := h.run
 unfold boolOf at h
 split at h
 rename_i t e
 exact T_cond e h.t h.f
 exact h.elim
theorem T_sk (h : @Kt ⟨Q .normal⟩ F H) : T P n b .skip F H Q := T_skip h.get
theorem T_rt (h : @Kx .ret ⟨Q⟩ F H) : T P n b .ret F H Q := T_ret h.get
theorem T_ex {i : Nat} (h : @Kx (.exit i) ⟨Q⟩ F H) : T P n b (.exit i) F H Q := T_exit h.get
theorem Kt_then {y : Code} (h : T P n b y F H Q) : @Kt ⟨(thenT P n b y Q) .normal⟩ F H := .mk h
theorem Kt_block {i : Nat} (h : @Kt ⟨Q .normal⟩ F H) : @Kt ⟨(blockT i Q) .normal⟩ F H := .mk h.get
theorem Kt_loop {I : Nat → AF → AS → Prop} {k : Nat} (h : ∃ k', k' < k ∧ I k' F H) : @Kt ⟨(loopT I k Q) .normal⟩ F H := .mk h
theorem Kr_then {y : Code} (h : @Kx .ret ⟨Q⟩ F H) : @Kx .ret ⟨thenT P n b y Q⟩ F H := .mk h.get
theorem Kr_block {i : Nat} (h : @Kx .ret ⟨Q⟩ F H) : @Kx .ret ⟨blockT i Q⟩ F H := .mk h.get
theorem Kr_loop {I : Nat → AF → AS → Prop} {k : Nat} (h : @Kx .ret ⟨Q⟩ F H) : @Kx .ret ⟨loopT I k Q⟩ F H := .mk h.get
theorem Ke_then {y : Code} {i : Nat} (h : @Kx (.exit i) ⟨Q⟩ F H) : @Kx (.exit i) ⟨thenT P n b y Q⟩ F H := .mk h.get
theorem Ke_loop {I : Nat → AF → AS → Prop} {k i : Nat} (h : @Kx (.exit i) ⟨Q⟩ F H) : @Kx (.exit i) ⟨loopT I k Q⟩ F H := .mk h.get
theorem Ke_here {i : Nat} (h : @Kt ⟨Q .normal⟩ F H) : @Kx (.exit i) ⟨blockT i Q⟩ F H := .mk (by simp; exact h.get)
theorem Ke_block {i j : Nat} (h : @Kx (.exit i) ⟨Q⟩ F H) (hne : ¬ i = j := by decide) : @Kx (.exit i) ⟨blockT j Q⟩ F H := .mk (by simp [hne]; exact h.get)
theorem T_lp {c : Code} (I : Nat → AF → AS → Prop) (k : Nat) (h0 : I k F H) (hstep : ∀ k F H, I k F H → T P n b c F H (loopT I k Q)) : T P n b (.loop c) F H Q := T_loop I k h0 hstep
theorem Kt_thenK {R : AF → AS → Prop} (h : R F H) : @Kt ⟨(thenK R Q) .normal⟩ F H := .mk h
theorem Kr_thenK {R : AF → AS → Prop} (h : @Kx .ret ⟨Q⟩ F H) : @Kx .ret ⟨thenK R Q⟩ F H := .mk h.get
theorem callR {f : FuncId} {args : List PV} {k k0 : PV → AS → Prop} (h : ACalls P f args H k0) (hk : ∀ q H', k0 q H' → Run (k q H')) : @callK P f args H ⟨k⟩ := h.mono fun q H' hq => (hk q H' hq).run
theorem appR {s t : TypeId} {x y : PV} {k : PV → AS → Prop} (h : aappend P H s t x y (fun q H' => Run (k q H'))) : @appendK P H s t x y ⟨k⟩ := appendK.of (aappend_mono (fun q H' h => h.run) h)
theorem askR {L : Nat → Prop} {g : FuncId} {args : List PV} {X : PV → Prop} (q : AS → PV) (hq : ∀ H', Same L H H' → q H' = q H) (hc : ∀ H', Same L H H' → ACalls P g args H' fun r H'' => r = q H' ∧ H'' = H') (hX : Run (X (q H))) : @askK P L H g args ⟨X⟩ := Ask.of q hq hc hX.run
theorem T_dr {id : Nat} {l : List Oper} (L : Nat → Prop) (late : List Nat) (c : Ord) (hm : P.follows .mixedOrders = true) (h : Run (aWalk P l.toArray L late c F H (@Kt ⟨Q .normal⟩))) (ho : orderOk l.toArray late c = true := by kernel_rfl) (hok : regionOk n l.toArray = true := by kernel_rfl) : T P n b (.region id l.toArray true) F H Q :=
 (T_draw (Q := fun e F H => match e with | .normal => @Kt ⟨Q .normal⟩ F H | e => Q e F H) L late c hm hok ho h.run).mono fun e F H _ hq => by
  cases e <;> first | exact hq.get | exact hq
end
set_option linter.unusedSimpArgs false
def Gh.all (G : Gh) (w : World) (d : Nat) : Gh :=
 { view := fun _ _ => none, mview := fun _ => none, ro := fun b => match G.ro b with | some x => some x | none => (w.heap[b]?).map fun o => (d, o), next := G.next, w0 := G.w0 }
def AS.bare (H : AS) (k : Nat) : AS := ⟨fun _ => none, fun _ => none, H.next, k⟩
@[simp] theorem bare_next (H : AS) (k : Nat) : (H.bare k).next = H.next := rfl
@[simp] theorem bare_color (H : AS) (k : Nat) : (H.bare k).color = k := rfl
@[simp] theorem bare_box (H : AS) (k i : Nat) : (H.bare k).box i = none := rfl
@[simp] theorem bare_mp (H : AS) (k i : Nat) : (H.bare k).mp i = none := rfl
section
variable {P : Program} {G : Gh} {H : AS} {w : World} {d : Nat}
theorem all_some {b : Nat} {x : Nat × Obj} (h : G.ro b = some x) : (G.all w d).ro b = some x := by simp [Gh.all, h]
theorem all_none {b : Nat} (h : G.ro b = none) : (G.all w d).ro b = (w.heap[b]?).map fun o => (d, o) := by simp [Gh.all, h]
theorem rel_all (h : Rel G H w) (k : Nat) : Rel (G.all w d) (H.bare k) w := by
 refine ⟨h.next, fun b c o e => ?_, ?_, ?_, ?_, ?_, ?_, ?_, ?_, h.os, h.out, h.tape, h.base.1, fun b o e => ?_⟩
 cases hg : G.ro b with
 | some x => rw [all_some hg] at e; cases e; exact h.ro b c o hg
 | none =>
  rw [all_none hg] at e
  cases hh : w.heap[b]? with
  | none => rw [hh] at e; cases e
  | some o' => rw [hh] at e; simp at e; rw [e.2]
 intro id rows e; simp at e
 intro i j ri rj b s c s' c' e; simp at e
 intro id es e; simp at e
 intro i j ri rj b e; simp at e
 intro id rows vl x e; simp at e
 intro id vl x e; simp [Gh.all] at e
 intro id x e; simp [Gh.all] at e
 obtain ⟨c, hc⟩ := h.base.2 b o e
 exact ⟨c, all_some hc⟩
inductive Pl : PV → Prop
 | val (v : Value) : Pl (.val v)
 | junk : Pl .junk
 | rptr {c : Nat} {cells : List PV} : (∀ p ∈ cells, Pl p) → Pl (.rptr c cells)
 | slice {c sz : Nat} {rows : List (List PV)} : (∀ r ∈ rows, ∀ p ∈ r, Pl p) → Pl (.slice c sz rows)
 | func {f : FuncId} {caps : List PV} : (∀ p ∈ caps, Pl p) → Pl (.func f caps)
 | iface {t : TypeId} {p : PV} : Pl p → Pl (.iface t p)
 | agg {cells : List PV} : (∀ p ∈ cells, Pl p) → Pl (.agg cells)
 | tuple {cells : List PV} : (∀ p ∈ cells, Pl p) → Pl (.tuple cells)
theorem cell_all {c b o : Nat} {v : Value} (e : G.cell c b o = some v) : (G.all w d).cell c b o = some v := by
 unfold Gh.cell at e ⊢
 cases hg : G.ro b with
 | none => rw [hg] at e; simp at e
 | some x => rw [all_some hg]; rw [hg] at e; exact e
theorem rep_pl {p : PV} {v : Value} (r : Rep G p v) : Pl p → Rep (G.all w d) p v := by
 induction r with
 | val v => intro _; exact .val v
 | junk v => intro _; exact .junk v
 | ptr e => intro h; cases h
 | rptr vs h1 h2 _ ih => intro h; cases h with | rptr h => exact .rptr vs (fun j p hp => cell_all (h1 j p hp)) h2 (fun j p hp => ih j p hp (h p (List.mem_of_getElem? hp)))
 | slice vs h0 h1 h2 h3 _ ih => intro h; cases h with | slice h => exact .slice vs h0 h1 (fun i r j p hr hp => cell_all (h2 i r j p hr hp)) h3 (fun i r j p hr hp => ih i r j p hr hp (h r (List.mem_of_getElem? hr) p (List.mem_of_getElem? hp)))
 | nilSlice => intro _; exact .nilSlice
 | emptySlice => intro _; exact .emptySlice
 | msl e => intro h; cases h
 | func h1 _ ih => intro h; cases h with | func h => exact .func h1 (fun j p v hp hv => ih j p v hp hv (h p (List.mem_of_getElem? hp)))
 | bound h1 _ ih => intro h; cases h
 | iface _ ih => intro h; cases h with | iface h => exact .iface (ih h)
 | agg h1 h2 _ ih => intro h; cases h with | agg h => exact .agg h1 h2 (fun j p v hp hv => ih j p v hp hv (h p (List.mem_of_getElem? hp)))
 | tuple h1 _ ih => intro h; cases h with | tuple h => exact .tuple h1 (fun j p v hp hv => ih j p v hp hv (h p (List.mem_of_getElem? hp)))
 | map e => intro h; cases h
inductive Fz (H : AS) (d : Nat) : PV → PV → Prop
 | same {p : PV} : Pl p → Fz H d p p
 | nil {sz : Nat} : Fz H d .nil (PV.sl d sz [])
 | msl {id len sz : Nat} {rows rows' : List (List PV)} : H.box id = some rows → rows.length = len → rows'.length = rows.length →
   (∀ (i : Nat) (r r' : List PV), rows[i]? = some r → rows'[i]? = some r' → r'.length = r.length) →
   (∀ (i : Nat) (r r' : List PV) (j : Nat) (p p' : PV), rows[i]? = some r → rows'[i]? = some r' → r[j]? = some p → r'[j]? = some p' → Fz H d p p') → Fz H d (.msl id len sz) (PV.sl d sz rows')
 | agg {cs cs' : List PV} : cs'.length = cs.length → (∀ (j : Nat) (p p' : PV), cs[j]? = some p → cs'[j]? = some p' → Fz H d p p') → Fz H d (.agg cs) (.agg cs')
theorem get_of_lt {α : Type} {l : List α} {i : Nat} (h : i < l.length) : ∃ a, l[i]? = some a := ⟨l[i], List.getElem?_eq_getElem h⟩
theorem fz_rep (hr : Rel G H w) {p p' : PV} (h : Fz H d p p') : ∀ {v : Value}, Rep G p v → Rep (G.all w d) p' v := by
 induction h with
 | same h => intro v r; exact rep_pl r h
 | nil => intro v r; cases r; exact .nilSlice
 | @msl id len sz rows rows' hb hl hl' hlen _ ih =>
  intro v r
  cases r with
  | msl hv =>
   rename_i b cap
   obtain ⟨b', s', cap', vs, el, fz, hv', hh, hfz, hcap, hlc, hrows, hcells, h1c, hro⟩ := hr.box id rows hb
   rw [hl, hv] at hv'
   obtain ⟨rfl, rfl, rfl⟩ : b = b' ∧ sz = s' ∧ cap = cap' := by simpa using hv'
   cases hz : rows' with
   | nil =>
    have h0 : len = 0 := by rw [← hl, ← hl', hz]; rfl
    subst h0
    exact .emptySlice
   | cons r0 rs0 =>
    rw [← hz, ← hl, ← hl']
    have hcell : ∀ o x, vs[o]? = some x → (G.all w d).cell d b o = some x := fun o x hx => by
     unfold Gh.cell
     rw [all_none hro, hh]
     simpa using hx
    rw [show PV.sl d sz rows' = .slice d sz rows' by rw [hz]; rfl]
    have orig : ∀ (i : Nat) (r' : List PV), rows'[i]? = some r' → ∃ r, rows[i]? = some r ∧ r'.length = r.length := fun i r' hr' => by
     obtain ⟨r, hr2⟩ := get_of_lt (l := rows) (i := i) (by rw [← hl']; exact (List.getElem?_eq_some_iff.1 hr').1)
     exact ⟨r, hr2, hlen i r r' hr2 hr'⟩
    have at_ : ∀ (i : Nat) (r' : List PV) (j : Nat) (p' : PV), rows'[i]? = some r' → r'[j]? = some p' → ∃ x, vs[i * sz + j]? = some x ∧ Rep (G.all w d) p' x := fun i r' j p' hr' hp' => by
     obtain ⟨r, hr2, hle⟩ := orig i r' hr'
     obtain ⟨p, hp⟩ := get_of_lt (l := r) (i := j) (by rw [← hle]; exact (List.getElem?_eq_some_iff.1 hp').1)
     obtain ⟨x, hx, hrep⟩ := hcells i r j p hr2 hp
     exact ⟨x, hx, ih i r r' j p p' hr2 hr' hp hp' hrep⟩
    refine .slice (fun i j => (vs[i * sz + j]?).getD undef) (by rw [hl']; exact hlc) (fun i r' hr' => ?_) (fun i r' j p' hr' hp' => ?_) (fun i r' j p' hr' hp' => ?_) (fun i r' j p' hr' hp' => ?_)
    ·obtain ⟨r, hr2, hle⟩ := orig i r' hr'
     rw [hle]; exact hrows r (List.mem_of_getElem? hr2)
    ·obtain ⟨x, hx, _⟩ := at_ i r' j p' hr' hp'
     rw [Nat.zero_add]
     have := hcell _ _ hx
     simp only [hx, Option.getD_some]; exact this
    ·obtain ⟨x, hx, _⟩ := at_ i r' j p' hr' hp'
     simp only [hx, Option.getD_some]; exact h1c _ _ hx
    ·obtain ⟨x, hx, hrep⟩ := at_ i r' j p' hr' hp'
     simp only [hx, Option.getD_some]; exact hrep
 | @agg cs cs' hl _ ih =>
  intro v r
  cases r with
  | agg h1 h2 h3 =>
   refine .agg (by rw [hl]; exact h1) h2 fun j p' v hp' hv => ?_
   obtain ⟨p, hp⟩ := get_of_lt (l := cs) (i := j) (by rw [← hl]; exact (List.getElem?_eq_some_iff.1 hp').1)
   exact ih j p p' hp hp' (h3 j p v hp hv)
def FzAll (H : AS) (d : Nat) : List PV → List PV → Prop
 | [], [] => True
 | p :: ps, q :: qs => Fz H d p q ∧ FzAll H d ps qs
 | _, _ => False
theorem fzAll_rep (hr : Rel G H w) : ∀ {ps ps' : List PV} {vs : List Value}, FzAll H d ps ps' → RepAll G ps vs → RepAll (G.all w d) ps' vs
 | [], [], [], _, _ => trivial
 | p :: ps, q :: qs, v :: vs, h, h' => ⟨fz_rep hr h.1 h'.1, fzAll_rep hr h.2 h'.2⟩
 | [], _ :: _, _, h, _ => h.elim
 | _ :: _, [], _, h, _ => h.elim
 | [], [], _ :: _, _, h => h.elim
 | _ :: _, _ :: _, [], _, h => h.elim
def AS.join (H H' : AS) : AS := ⟨fun i => if i < H.next then H.box i else H'.box i, fun i => if i < H.next then H.mp i else H'.mp i, H'.next, H.color⟩
theorem join_ext {H H' : AS} (h : H.next ≤ H'.next) : H.Ext (H.join H') := ⟨h, fun i hi => by simp [AS.join, hi], fun i hi => by simp [AS.join, hi], rfl⟩
theorem join_new {H H' : AS} {i : Nat} (h : H.next ≤ i) : (H.join H').box i = H'.box i := by simp [AS.join, Nat.not_lt.2 h]
@[simp] theorem join_next (H H' : AS) : (H.join H').next = H'.next := rfl
@[simp] theorem join_color (H H' : AS) : (H.join H').color = H.color := rfl
inductive Clean (n d : Nat) : PV → Prop
 | val (v : Value) : Clean n d (.val v)
 | junk : Clean n d .junk
 | ptr {id vl row off : Nat} : n ≤ id → Clean n d (.ptr id vl row off)
 | rptr {c : Nat} {cells : List PV} : c ≠ d → (∀ p ∈ cells, Clean n d p) → Clean n d (.rptr c cells)
 | slice {c sz : Nat} {rows : List (List PV)} : c ≠ d → (∀ r ∈ rows, ∀ p ∈ r, Clean n d p) → Clean n d (.slice c sz rows)
 | empty {c sz : Nat} : Clean n d (.slice c sz [])
 | msl {id len sz : Nat} : n ≤ id → Clean n d (.msl id len sz)
 | iface {t : TypeId} {p : PV} : Clean n d p → Clean n d (.iface t p)
 | agg {cells : List PV} : (∀ p ∈ cells, Clean n d p) → Clean n d (.agg cells)
 | tuple {cells : List PV} : (∀ p ∈ cells, Clean n d p) → Clean n d (.tuple cells)
theorem clean_sl {n d c sz : Nat} {rows : List (List PV)} (hc : c ≠ d) (h : ∀ r ∈ rows, ∀ p ∈ r, Clean n d p) : Clean n d (PV.sl c sz rows) := by
 cases rows with
 | nil => exact .empty
 | cons r rs => exact .slice hc h
def Gh.join (G G' : Gh) (w : World) (n : Nat) : Gh :=
 { view := fun id vl => if id < n then G.view id vl else G'.view id vl, mview := fun id => if id < n then G.mview id else G'.mview id,
   ro := fun b => match G.ro b with | some x => some x | none => if b < w.heap.size then none else G'.ro b, next := G'.next, w0 := G.w0 }
theorem rep_join {G' : Gh} {w : World} (hle : (G.all w d).le G') {n : Nat} {p : PV} {v : Value} (r : Rep G' p v) : Clean n d p → Rep (G.join G' w n) p v := by
 have hc : ∀ {c b o : Nat} {v : Value}, c ≠ d → G'.cell c b o = some v → (G.join G' w n).cell c b o = some v := by
  intro c b o v hcd e
  unfold Gh.cell at e ⊢
  cases hg : G.ro b with
  | some x =>
   have h1 := hle.ro b x (all_some hg)
   rw [h1] at e
   simp only [Gh.join, hg]
   exact e
  | none =>
   by_cases hb : b < w.heap.size
   ·have h1 := hle.ro b (d, w.heap[b]) (by rw [all_none hg]; simp [hb])
    rw [h1] at e
    cases ho : w.heap[b] with
    | cells vs t fz =>
     rw [ho] at e
     simp at e
     exact absurd e.1.symm hcd
    | _ => rw [ho] at e; simp at e
   ·simp only [Gh.join, hg, if_neg hb]
    exact e
 induction r with
 | val v => intro _; exact .val v
 | junk v => intro _; exact .junk v
 | ptr e => intro h; cases h with | ptr h => exact .ptr (by simp [Gh.join, Nat.not_lt.2 h]; exact e)
 | rptr vs h1 h2 _ ih => intro h; cases h with | rptr hcd h => exact .rptr vs (fun j p hp => hc hcd (h1 j p hp)) h2 (fun j p hp => ih j p hp (h p (List.mem_of_getElem? hp)))
 | slice vs h0 h1 h2 h3 _ ih =>
  intro h
  cases h with
  | slice hcd h => exact .slice vs h0 h1 (fun i r j p hr hp => hc hcd (h2 i r j p hr hp)) h3 (fun i r j p hr hp => ih i r j p hr hp (h r (List.mem_of_getElem? hr) p (List.mem_of_getElem? hp)))
  | empty => exact .emptySlice
 | nilSlice => intro _; exact .nilSlice
 | emptySlice => intro _; exact .emptySlice
 | msl e => intro h; cases h with | msl h => exact .msl (by simp [Gh.join, Nat.not_lt.2 h]; exact e)
 | func h1 _ ih => intro h; cases h
 | bound h1 _ ih => intro h; cases h
 | iface _ ih => intro h; cases h with | iface h => exact .iface (ih h)
 | agg h1 h2 _ ih => intro h; cases h with | agg h => exact .agg h1 h2 (fun j p v hp hv => ih j p v hp hv (h p (List.mem_of_getElem? hp)))
 | tuple h1 _ ih => intro h; cases h with | tuple h => exact .tuple h1 (fun j p v hp hv => ih j p v hp hv (h p (List.mem_of_getElem? hp)))
 | map e => intro h; cases h
structure CleanM (n d : Nat) (H' : AS) : Prop where
 box : ∀ (id : Nat) (rows : List (List PV)), n ≤ id → H'.box id = some rows → ∀ r ∈ rows, ∀ p ∈ r, Clean n d p
 mp : ∀ (id : Nat), n ≤ id → H'.mp id = none
theorem rel_join {G' : Gh} {H' : AS} {w' : World} (h : Rel G H w) (hle : (G.all w d).le G') (h' : Rel G' H' w') (hcl : CleanM H.next d H') : G.le (G.join G' w H.next) ∧ Rel (G.join G' w H.next) (H.join H') w' := by
 have hold : ∀ b, b < w.heap.size → w'.heap[b]? = w.heap[b]? ∧ ∃ c, G'.ro b = some (c, w.heap[b]!) := fun b hb => by
  have e : w.heap[b]? = some w.heap[b]! := by simp [hb]
  cases hg : G.ro b with
  | some x =>
   have h1 := hle.ro b x (all_some hg)
   have h2 := h.ro b x.1 x.2 hg
   rw [e] at h2
   have h3 : x.2 = w.heap[b]! := (Option.some.inj h2).symm
   refine ⟨by rw [h'.ro b x.1 x.2 h1, e, h3], x.1, ?_⟩
   rw [h1, ← h3]
  | none =>
   have h1 := hle.ro b (d, w.heap[b]!) (by rw [all_none hg, e]; rfl)
   exact ⟨by rw [h'.ro b _ _ h1, e], d, h1⟩
 have hnx : H.next ≤ H'.next := by
  have := hle.next
  rw [← h.next, ← h'.next]; exact this
 have hJ : G.le (G.join G' w H.next) := by
  refine ⟨fun b x e => by simp [Gh.join, e], fun id vl x e => ?_, fun id x e => ?_, by show G.next ≤ G'.next; exact hle.next, rfl⟩
  ·have := h.dom id vl x e; rw [h.next] at this; simp [Gh.join, this, e]
  ·have := h.mdom id x e; rw [h.next] at this; simp [Gh.join, this, e]
 have ltOf : ∀ {b : Nat} {o : Obj}, w.heap[b]? = some o → b < w.heap.size := fun e => (Array.getElem?_eq_some_iff.1 e).1
 have viewOld : ∀ {id vl : Nat}, id < H.next → (G.join G' w H.next).view id vl = G.view id vl := fun hi => by simp [Gh.join, hi]
 have viewNew : ∀ {id vl : Nat}, ¬ id < H.next → (G.join G' w H.next).view id vl = G'.view id vl := fun hi => by simp [Gh.join, hi]
 have mviewOld : ∀ {id : Nat}, id < H.next → (G.join G' w H.next).mview id = G.mview id := fun hi => by simp [Gh.join, hi]
 have hwf := h.wf
 have boxOld : ∀ {id : Nat} {rows : List (List PV)}, id < H.next → (H.join H').box id = some rows → H.box id = some rows := fun hi e => by simpa [AS.join, hi] using e
 have boxNew : ∀ {id : Nat} {rows : List (List PV)}, ¬ id < H.next → (H.join H').box id = some rows → H'.box id = some rows := fun hi e => by simpa [AS.join, hi] using e
 have mpOld : ∀ {id : Nat} {es : List (Value × PV)}, (H.join H').mp id = some es → id < H.next ∧ H.mp id = some es := fun {id es} e => by
  by_cases hi : id < H.next
  ·exact ⟨hi, by simpa [AS.join, hi] using e⟩
  ·simp [AS.join, hi] at e
   rw [hcl.mp id (Nat.not_lt.1 hi)] at e; cases e
 have apart : ∀ {i j : Nat} {ri rj : List (List PV)} {b s c s' c' : Nat}, H.box i = some ri → H'.box j = some rj → G.view i ri.length = some (b, s, c) → G'.view j rj.length = some (b, s', c') → False := by
  intro i j ri rj b s c s' c' hi hj e1 e2
  obtain ⟨b1, _, _, _, _, _, hv1, hh1, _⟩ := h.box i ri hi
  rw [e1] at hv1
  obtain ⟨rfl, -, -⟩ : b = b1 ∧ _ ∧ _ := by simpa using hv1
  obtain ⟨b2, _, _, _, _, _, hv2, _, _, _, _, _, _, _, hro⟩ := h'.box j rj hj
  rw [e2] at hv2
  obtain ⟨rfl, -, -⟩ : b = b2 ∧ _ ∧ _ := by simpa using hv2
  obtain ⟨c, hc⟩ := (hold b (ltOf hh1)).2
  rw [hro] at hc; cases hc
 refine ⟨hJ, ?_⟩
 refine ⟨h'.next, fun b c o e => ?_, fun id rows e => ?_, fun i j ri rj b s c s' c' hi hj e1 e2 => ?_, fun id es e => ?_, fun i j ri rj b hi hj e1 e2 => ?_, fun id rows vl x hb e => ?_, fun id vl x e => ?_, fun id x e => ?_, ?_, ?_, ?_, ?_⟩
 cases hg : G.ro b with
 | some x =>
  simp only [Gh.join, hg] at e
  cases e
  exact h'.ro b c o (hle.ro b _ (all_some hg))
 | none =>
  simp only [Gh.join, hg] at e
  split at e
  ·cases e
  ·exact h'.ro b c o e
 by_cases hi : id < H.next
 obtain ⟨b, sz, cap, vs, elem, fz, hv, hh, h2, h3, h4, h5, hc, h6, h7⟩ := h.box id rows (boxOld hi e)
 refine ⟨b, sz, cap, vs, elem, fz, by rw [viewOld hi]; exact hv, by rw [(hold b (ltOf hh)).1]; exact hh, h2, h3, h4, h5, fun i r j p hr hp => ?_, h6, ?_⟩
 obtain ⟨v, e1, e2⟩ := hc i r j p hr hp
 exact ⟨v, e1, e2.mono hJ⟩
 simp only [Gh.join, h7, if_pos (ltOf hh)]
 have hb := boxNew hi e
 obtain ⟨b, sz, cap, vs, elem, fz, hv, hh, h2, h3, h4, h5, hc, h6, h7⟩ := h'.box id rows hb
 refine ⟨b, sz, cap, vs, elem, fz, by rw [viewNew hi]; exact hv, hh, h2, h3, h4, h5, fun i r j p hr hp => ?_, h6, ?_⟩
 obtain ⟨v, e1, e2⟩ := hc i r j p hr hp
 exact ⟨v, e1, rep_join hle e2 (hcl.box id rows (Nat.not_lt.1 hi) hb r (List.mem_of_getElem? hr) p (List.mem_of_getElem? hp))⟩
 cases hg : G.ro b with
 | some x => have := hle.ro b x (all_some hg); rw [h7] at this; cases this
 | none => simp only [Gh.join, hg]; split <;> first | rfl | exact h7
 by_cases h1 : i < H.next
 by_cases h2 : j < H.next
 rw [viewOld h1] at e1
 rw [viewOld h2] at e2
 exact h.inj i j ri rj b s c s' c' (boxOld h1 hi) (boxOld h2 hj) e1 e2
 rw [viewOld h1] at e1
 rw [viewNew h2] at e2
 exact (apart (boxOld h1 hi) (boxNew h2 hj) e1 e2).elim
 by_cases h2 : j < H.next
 rw [viewNew h1] at e1
 rw [viewOld h2] at e2
 exact (apart (boxOld h2 hj) (boxNew h1 hi) e2 e1).elim
 rw [viewNew h1] at e1
 rw [viewNew h2] at e2
 exact h'.inj i j ri rj b s c s' c' (boxNew h1 hi) (boxNew h2 hj) e1 e2
 obtain ⟨hi, hm⟩ := mpOld e
 obtain ⟨b, ents, clock, hv, hh, hs, hc, hro⟩ := h.mp id es hm
 refine ⟨b, ents, clock, by rw [mviewOld hi]; exact hv, by rw [(hold b (ltOf hh)).1]; exact hh, hs, fun i e m hi hj => ⟨(hc i e m hi hj).1, (hc i e m hi hj).2.mono hJ⟩, ?_⟩
 simp only [Gh.join, hro, if_pos (ltOf hh)]
 obtain ⟨h1, hm1⟩ := mpOld hi
 obtain ⟨h2, hm2⟩ := mpOld hj
 rw [mviewOld h1] at e1
 rw [mviewOld h2] at e2
 exact h.minj i j ri rj b hm1 hm2 e1 e2
 by_cases hi : id < H.next
 rw [viewOld hi] at e; exact h.vmax id rows vl x (boxOld hi hb) e
 rw [viewNew hi] at e; exact h'.vmax id rows vl x (boxNew hi hb) e
 show id < G'.next
 by_cases hi : id < H.next
 have := hle.next; rw [h'.next]; omega
 rw [viewNew hi] at e; exact h'.dom id vl x e
 show id < G'.next
 by_cases hi : id < H.next
 rw [h'.next]; omega
 simp only [Gh.join, if_neg hi] at e; exact h'.mdom id x e
 show w'.os = G.w0.os
 rw [h'.os, hle.w0]; rfl
 show w'.output = G.w0.output
 rw [h'.out, hle.w0]; rfl
 show w'.tape = G.w0.tape
 rw [h'.tape, hle.w0]; rfl
 exact h.base.mono hJ
theorem Rel.less {H1 : AS} (h : Rel G H w) (hn : H1.next = H.next) (hb : ∀ id rows, H1.box id = some rows → H.box id = some rows) (hm : ∀ id es, H1.mp id = some es → H.mp id = some es) : Rel G H1 w :=
 ⟨h.next.trans hn.symm, h.ro, fun id rows e => h.box id rows (hb id rows e), fun i j ri rj b s c s' c' hi hj => h.inj i j ri rj b s c s' c' (hb _ _ hi) (hb _ _ hj), fun id es e => h.mp id es (hm id es e), fun i j ri rj b hi hj => h.minj i j ri rj b (hm _ _ hi) (hm _ _ hj), fun id rows vl x e => h.vmax id rows vl x (hb _ _ e), h.dom, h.mdom, h.os, h.out, h.tape, h.base⟩
open Classical in
noncomputable def AS.cleaned (n d : Nat) (H : AS) : AS := ⟨fun i => match H.box i with
 | some rows => if ∀ r ∈ rows, ∀ p ∈ r, Clean n d p then some rows else none
 | none => none, fun _ => none, H.next, H.color⟩
@[simp] theorem cleaned_next (n d : Nat) (H : AS) : (H.cleaned n d).next = H.next := rfl
theorem cleaned_some {n d i : Nat} {H : AS} {rows : List (List PV)} (e : (H.cleaned n d).box i = some rows) : H.box i = some rows ∧ ∀ r ∈ rows, ∀ p ∈ r, Clean n d p := by
 unfold AS.cleaned at e
 dsimp only at e
 split at e
 rename_i rows' e'
 split at e
 rename_i h; cases e; exact ⟨e', h⟩
 cases e
 cases e
theorem cleaned_keep {n d i : Nat} {H : AS} {rows : List (List PV)} (e : H.box i = some rows) (h : ∀ r ∈ rows, ∀ p ∈ r, Clean n d p) : (H.cleaned n d).box i = some rows := by
 unfold AS.cleaned
 simp only [e]
 rw [if_pos h]
theorem ACalls.thawC {f : FuncId} {args args' : List PV} {k0 : PV → AS → Prop} (d k : Nat) (hf : FzAll H d args args') (hc : ACalls P f args' (H.bare k) k0)
  (hk : ∀ q H', k0 q H' → Clean H.next d q) : ACalls P f args H fun q H'' => ∃ H', k0 q H' ∧ H'' = H.join (H'.cleaned H.next d) ∧ H.next ≤ H'.next ∧ WF H := by
 have cl : ∀ H' : AS, CleanM H.next d (H'.cleaned H.next d) := fun H' => ⟨fun id rows _ e => (cleaned_some e).2, fun id _ => rfl⟩
 have ls : ∀ {G' : Gh} {H' : AS} {w' : World}, Rel G' H' w' → Rel G' (H'.cleaned H.next d) w' := fun h => h.less rfl (fun id rows e => (cleaned_some e).1) (fun id es e => by cases e)
 rcases hc with hc | ⟨fn, e, h1, h2, h3, h4, h5, hc⟩
 refine .inl ⟨hc.1, fun G w vs hr ha => ?_⟩
 refine (hc.2 (G.all w d) w vs (rel_all hr k) (fzAll_rep hr hf ha)).mono fun _ _ ⟨v, G', q, H', e, l, r, p, hq⟩ => ?_
 obtain ⟨j1, j2⟩ := rel_join hr l (ls r) (cl H')
 refine ⟨v, _, q, H.join (H'.cleaned H.next d), e, j1, j2, rep_join l p (hk q H' hq), H', hq, rfl, ?_, hr.wf⟩
 have := l.next
 rw [← hr.next, ← r.next]; exact this
 refine .inr ⟨fn, e, h1, h2, h3, h4, h5, fun G w vs hr ha => ?_⟩
 obtain ⟨v, w', G', q, H', a, l, r, p, hq⟩ := hc (G.all w d) w vs (rel_all hr k) (fzAll_rep hr hf ha)
 obtain ⟨j1, j2⟩ := rel_join hr l (ls r) (cl H')
 refine ⟨v, w', _, q, H.join (H'.cleaned H.next d), a, j1, j2, rep_join l p (hk q H' hq), H', hq, rfl, ?_, hr.wf⟩
 have := l.next
 rw [← hr.next, ← r.next]; exact this
theorem join_bare (hwf : WF H) (k n d : Nat) : H.join ((H.bare k).cleaned n d) = H := by
 obtain ⟨bx, mp, nx, co⟩ := H
 simp only [AS.join, AS.bare, AS.cleaned, AS.mk.injEq, true_and, and_true]
 constructor
 funext i
 split
 rfl
 rename_i hi
 cases e : bx i with
 | none => rfl
 | some rows => exact absurd (hwf.box i rows e).1 hi
 funext i
 split
 rfl
 rename_i hi
 cases e : mp i with
 | none => rfl
 | some es => exact absurd (hwf.mp i es e).1 hi
theorem ACalls.quiet {f : FuncId} {args args' : List PV} {X : PV → Prop} (d k : Nat) (hf : FzAll H d args args') (hc : ACalls P f args' (H.bare k) fun q H' => X q ∧ H' = H.bare k) (hX : ∀ q, X q → Clean H.next d q) : ACalls P f args H fun q H' => X q ∧ H' = H := by
 refine (ACalls.thawC d k hf hc fun q H' h => hX q h.1).mono ?_
 rintro q H'' ⟨H', ⟨h1, h2⟩, h3, h4, hwf⟩
 refine ⟨h1, ?_⟩
 rw [h3, h2, join_bare hwf]
theorem ACalls.still {f : FuncId} {args args' : List PV} {v : Value} (d k : Nat) (hf : FzAll H d args args') (hc : ACalls P f args' (H.bare k) fun q H' => q = .val v ∧ H' = H.bare k) : ACalls P f args H fun q H' => q = .val v ∧ H' = H :=
 ACalls.quiet d k hf hc fun q h => h ▸ .val _
end
def Plain1 (p : PV) : Prop := (∀ cs, p = .agg cs → ∀ x ∈ cs, Frozen x) ∧ Frozen p
theorem frzVs_plain : ∀ {rs : List PV} {H : AS}, (∀ p ∈ rs, Plain1 p) → frzVs H rs = (rs, H)
 | [], _, _ => rfl
 | r :: rs, H, h => by
  have h1 := frzV_one (H := H) (h r (by simp))
  have h2 := frzVs_plain (rs := rs) (H := H) fun p hp => h p (by simp [hp])
  simp [frzVs, h1, h2]
theorem owes_many {P : Program} {H : AS} {fn : Func} {rs qs : List PV} {F' : AF} {H' : AS} {e : Exit} (he : e = .normal ∨ e = .ret) (hwf : WF H) (hr : aResults P F' H' fn.results.toList = some rs) (hq : rs = qs) (hext : H.Ext H')
  (hf : ∀ p ∈ qs, Plain1 p) (hb : ∀ p ∈ qs, Below H.next p) : Owes P fn H (fun r H'' => r = packed qs ∧ H'' = H) e F' H' := by
 subst hq
 have e := frzVs_plain (H := H') hf
 refine owes_pure he hwf hr ?_ ?_ ?_
 rw [e]; exact hext
 rw [e]; exact hb
 rw [e]
@[simp] theorem plain1_val (v : Value) : Plain1 (.val v) ↔ Frozen (.val v) := ⟨fun h => h.2, fun h => ⟨by simp, h⟩⟩
theorem owes_vals {P : Program} {H : AS} {fn : Func} {rs qs : List PV} {q : PV} {F' : AF} {H' : AS} {e : Exit} (he : e = .normal ∨ e = .ret) (hwf : WF H) (hr : aResults P F' H' fn.results.toList = some rs) (hq : q = packed qs) (hrs : rs = qs) (hext : H.Ext H')
  (hf : ∀ p ∈ qs, Plain1 p) (hb : ∀ p ∈ qs, Below H.next p) : Owes P fn H (fun r H'' => r = q ∧ H'' = H) e F' H' := by
 subst hq; exact owes_many he hwf hr hrs hext hf hb
section
variable {P : Program} {n b : Nat} {F : AF} {H : AS} {Q : Exit → AF → AS → Prop}
structure Jn (P : Program) (n b : Nat) (z : Code) (Q : Exit → AF → AS → Prop) (R : AF → AS → Prop) : Prop where
 run : ∀ F H, R F H → T P n b z F H Q
theorem T_jr (id : Nat) (R : AF → AS → Prop) {ops : Array Oper} {d : Bool} {c : Operand} {x y z : Code} (h : T P n b (.seq (.region id ops d) (.cond c x y)) F H (thenK R Q)) (h' : Jn P n b z Q R) : T P n b (.seq (.seq (.region id ops d) (.cond c x y)) z) F H Q := T_mid R h h'.run
end
def hbind {α β : Type} (x : Option α) [k : Kont (α → Option β)] : Option β := x.bind k.run
theorem hbind_some {α β : Type} (a : α) (k : α → Option β) : @hbind α β (some a) ⟨k⟩ = k a := _root_.id rfl
theorem wanted_at {ops : Array Oper} {F : AF} {d : Option Tmp} {op : Op} {ty : TypeId} {pos : String} {af : Array Edge} (j : Nat) (want : Bool) : aWanted ops F ⟨d, op, ty, pos, af, some (j, want)⟩ = @hbind _ _ (ops[j]?) ⟨fun o => @hbind _ _ o.dst ⟨fun t => wantOf (F t) want⟩⟩ := by
 rw [wanted_some]; unfold hbind; cases ops[j]? <;> rfl
section
variable {P : Program} {n b : Nat} {F : AF} {H : AS} {Q : Exit → AF → AS → Prop}
structure Ls (P : Program) (n b : Nat) (c : Code) (Q : Exit → AF → AS → Prop) (I : Nat → AF → AS → Prop) : Prop where
 run : ∀ k F H, I k F H → T P n b c F H (loopT I k Q)
end
abbrev pi (n : Int) : PV := .val (.int .i64 n)
abbrev ps (s : ByteArray) : PV := .val (.string s)
abbrev pb (b : Bool) : PV := .val (.bool b)
@[ext] structure DVal where
 kind : Int
 bits : Int
 text : ByteArray
 deriving DecidableEq
@[ext] structure DCell where
 kind : Int
 sub : Bool
 lo : Int
 hi : Int
 max : Int
 init : DVal
 keep : Bool
 dir : Int
 addr : ByteArray
 deriving DecidableEq
@[ext] structure DOp where
 code : Int
 a : Int
 b : Int
 c : Int
 d : Int
 lo : Int
 hi : Int
 value : DVal
 deriving DecidableEq
@[ext] structure DLoop where
 head : Int
 stop : Int
 times : Int
 deriving DecidableEq
@[ext] structure DFlat where
 name : ByteArray
 what : Int
 cells : Int
 base : Int
 regs : Int
 slots : Int
 ops : List DOp
 loops : List DLoop
 deriving DecidableEq
@[ext] structure DJob where
 name : ByteArray
 interval : Int
 single : Int
 priority : Int
 codes : List Int
 bases : List Int
 bound : Int
 deriving DecidableEq
@[ext] structure DImage where
 name : ByteArray
 cells : List DCell
 codes : List DFlat
 jobs : List DJob
 deriving DecidableEq
def DVal.row (v : DVal) : List PV := [.val (.int .u8 v.kind), .val (.int .u64 v.bits), ps v.text]
def DCell.row (x : DCell) : List PV := [.val (.int .u8 x.kind), pb x.sub, pi x.lo, pi x.hi, pi x.max, .val (.int .u8 x.init.kind), .val (.int .u64 x.init.bits), ps x.init.text, pb x.keep, pi x.dir, ps x.addr]
def DOp.row (x : DOp) : List PV := [pi x.code, pi x.a, pi x.b, pi x.c, pi x.d, pi x.lo, pi x.hi, .val (.int .u8 x.value.kind), .val (.int .u64 x.value.bits), ps x.value.text]
def DLoop.row (x : DLoop) : List PV := [pi x.head, pi x.stop, pi x.times]
def irow (n : Int) : List PV := [pi n]
def DFlat.row (c : Nat) (x : DFlat) : List PV := [ps x.name, pi x.what, pi x.cells, pi x.base, pi x.regs, pi x.slots, PV.sl c 10 (x.ops.map DOp.row), PV.sl c 3 (x.loops.map DLoop.row)]
def DJob.row (c : Nat) (x : DJob) : List PV := [ps x.name, pi x.interval, pi x.single, pi x.priority, PV.sl c 1 (x.codes.map irow), PV.sl c 1 (x.bases.map irow), pi x.bound]
def DImage.row (c : Nat) (x : DImage) : List PV := [ps x.name, PV.sl c 11 (x.cells.map DCell.row), PV.sl c 8 (x.codes.map (DFlat.row c)), PV.sl c 7 (x.jobs.map (DJob.row c))]
theorem int_bne (a b : Int) : (a != b) = !decide (a = b) := rfl
theorem int_beq (a b : Int) : (a == b) = decide (a = b) := rfl
theorem map_get {α : Type} {xs : List α} {f : α → List PV} {i : Nat} (h : i < xs.length) : (xs.map f)[i]? = some (f xs[i]) := by simp [h]
theorem nm : (∀ b : Bool, ((!b) = true) = (b = false)) ∧ (∀ b : Bool, ((!b) = false) = (b = true)) ∧ (∀ a b : Bool, ((a && b) = true) = (a = true ∧ b = true)) ∧ (∀ a b : Bool, ((a && b) = false) = (a = false ∨ b = false)) ∧ (∀ a b : Bool, ((a || b) = true) = (a = true ∨ b = true)) ∧ (∀ a b : Bool, ((a || b) = false) = (a = false ∧ b = false)) ∧ (∀ (p : Prop) [Decidable p], (decide p = true) = p) ∧ ∀ (p : Prop) [Decidable p], (decide p = false) = ¬ p := by
 refine ⟨by simp, by simp, by simp, by simp, by simp, by simp, ?_, ?_⟩ <;> intro p i <;> by_cases h : p <;> simp [h]
theorem nm0 : (∀ b : Bool, ((!b) = true) = (b = false)) ∧ (∀ b : Bool, ((!b) = false) = (b = true)) ∧ (∀ (p : Prop) [Decidable p], (decide p = true) = p) ∧ ∀ (p : Prop) [Decidable p], (decide p = false) = ¬ p := ⟨nm.1, nm.2.1, nm.2.2.2.2.2.2⟩
theorem kr : (∀ (K : AF → AS → Prop) (Q : Exit → AF → AS → Prop) (F : AF) (H : AS), thenK K Q .ret F H = Q .ret F H) ∧ (∀ (i : Nat) (Q : Exit → AF → AS → Prop) (F : AF) (H : AS), blockT i Q .ret F H = Q .ret F H) ∧ (∀ (I : Nat → AF → AS → Prop) (k : Nat) (Q : Exit → AF → AS → Prop) (F : AF) (H : AS), loopT I k Q .ret F H = Q .ret F H) ∧ ∀ (l : Nat) (J : AF → AS → Prop) (Q : Exit → AF → AS → Prop) (F : AF) (H : AS), jumpT l J Q .ret F H = Q .ret F H := ⟨fun _ _ _ _ => rfl, fun _ _ _ _ => rfl, fun _ _ _ _ _ => rfl, fun _ _ _ _ _ => rfl⟩
theorem kn : (∀ (K : AF → AS → Prop) (Q : Exit → AF → AS → Prop) (F : AF) (H : AS), thenK K Q .normal F H = K F H) ∧ (∀ (i : Nat) (Q : Exit → AF → AS → Prop) (F : AF) (H : AS), blockT i Q .normal F H = Q .normal F H) ∧ (∀ (I : Nat → AF → AS → Prop) (k : Nat) (Q : Exit → AF → AS → Prop) (F : AF) (H : AS), loopT I k Q .normal F H = ∃ k', k' < k ∧ I k' F H) ∧ ∀ (l : Nat) (J : AF → AS → Prop) (Q : Exit → AF → AS → Prop) (F : AF) (H : AS), jumpT l J Q .normal F H = Q .normal F H := ⟨fun _ _ _ _ => rfl, fun _ _ _ _ => rfl, fun _ _ _ _ _ => rfl, fun _ _ _ _ _ => rfl⟩
theorem ke : (∀ (K : AF → AS → Prop) (Q : Exit → AF → AS → Prop) (i : Nat) (F : AF) (H : AS), thenK K Q (.exit i) F H = Q (.exit i) F H) ∧ (∀ (i j : Nat) (Q : Exit → AF → AS → Prop) (F : AF) (H : AS), blockT i Q (.exit j) F H = if j = i then Q .normal F H else Q (.exit j) F H) ∧ ∀ (I : Nat → AF → AS → Prop) (k i : Nat) (Q : Exit → AF → AS → Prop) (F : AF) (H : AS), loopT I k Q (.exit i) F H = Q (.exit i) F H := ⟨fun _ _ _ _ _ => rfl, fun _ _ _ _ _ => rfl, fun _ _ _ _ _ _ => rfl⟩
attribute [simp ↓] put_at AF.ev_tmp AF.ev_int AF.ev_bool AF.ev_func AF.ev_string AF.ev_slice ex_cons ex_nil ex_guard ex_box ex_assign ex_alloc ex_load ex_store ex_call ex_unOp ex_move ex_fieldAddr ex_field ex_binOp ex_pick ex_convert ex_extract ex_len ex_build ex_nilCheck ex_index ex_indexAddr ex_slice ex_min ex_buildSlice ex_append ex_makeFunc ex_makeSlice wk_free wk_sole wk_done wanted_none wk_move wk_assign wk_pick wk_build wk_unOp wk_convert wk_slice wk_fieldAddr wk_field wk_indexAddr wk_index wk_extract wk_len wk_min wk_load wk_call wk_binOp wk_nilCheck wk_sliceToArrayPointer
end Go.Abs
