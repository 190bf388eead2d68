/- The abstract layer, part 15: what follows behind a name; small facts. -/
import Derived.Test.YtahkpjbhjkmedaaK14
namespace Go.Abs
set_option autoImplicit false

section
variable {P : Program} {n b : Nat} {F : AF} {H : AS} {Q : Exit → AF → AS → Prop}

def thenK (K : AF → AS → Prop) (Q : Exit → AF → AS → Prop) : Exit → AF → AS → Prop
  | .normal, F, H => K F H
  | e, F, H => Q e F H

@[simp] theorem thenK_normal (K : AF → AS → Prop) (F : AF) (H : AS) : thenK K Q .normal F H = K F H := rfl
@[simp] theorem thenK_ret (K : AF → AS → Prop) (F : AF) (H : AS) : thenK K Q .ret F H = Q .ret F H := rfl
@[simp] theorem thenK_exit (K : AF → AS → Prop) (id : Nat) (F : AF) (H : AS) : thenK K Q (.exit id) F H = Q (.exit id) F H := rfl

/-- One behind the other, what follows behind a name. -/
theorem T_seqk {x y : Code} (h : ∀ K : AF → AS → Prop, (∀ F H, T P n b y F H Q → K F H) → T P n b x F H (thenK K Q)) : T P n b (.seq x y) F H Q :=
  T_seq ((h (fun F H => T P n b y F H Q) fun _ _ h => h).mono fun e F H _ hq => by cases e <;> exact hq)

/-- One behind the other, with what holds between. -/
theorem T_mid {x y : Code} (R : AF → AS → Prop) (h : T P n b x F H (thenK R Q)) (h' : ∀ F H, R F H → T P n b y F H Q) : T P n b (.seq x y) F H Q :=
  T_seq (h.mono fun e F H _ hq => by cases e <;> first | exact h' _ _ hq | exact hq)

theorem wrap_i64 {n : Int} (h : -9223372036854775808 ≤ n) (h' : n < 9223372036854775808) : IntKind.i64.wrap n = n := by
  unfold IntKind.wrap; simp only [IntKind.bits, IntKind.signed, Bool.true_and]
  split
  · rename_i h1; have := of_decide_eq_true h1; omega
  · rename_i h1; have : ¬ _ := fun h => h1 (decide_eq_true h); omega

theorem wrap_u8 {n : Int} (h : 0 ≤ n) (h' : n < 256) : IntKind.u8.wrap n = n := by
  unfold IntKind.wrap; simp [IntKind.bits, IntKind.signed]; omega

theorem frame0_zero (p : PV) (ps : List PV) : frame0 (p :: ps) 0 = p := rfl
theorem frame0_succ (p : PV) (ps : List PV) (t : Nat) : frame0 (p :: ps) (t + 1) = frame0 ps t := by simp [frame0]

/-- A function that leaves memory alone. -/
theorem owes_pure {fn : Func} {q : PV} {F' : AF} {H' : AS} {e : Exit} {rs : List PV} (he : e = .normal ∨ e = .ret) (hwf : WF H) (hr : aResults P F' H' fn.results.toList = some rs) (hext : H.Ext (frzVs H' rs).2) (hb : ∀ p ∈ (frzVs H' rs).1, Below H.next p)
    (hq : packed (frzVs H' rs).1 = q) : Owes P fn H (fun r H'' => r = q ∧ H'' = H) e F' H' := by
  refine ⟨he, ?_⟩
  rw [hr]
  exact ⟨H, Nat.le_refl _, hext, hwf, hb, hq, rfl⟩

theorem sl_get {c sz : Nat} {rows : List (List PV)} {r : List PV} {i : Nat} (h : rows[i]? = some r) : aindex sz (PV.sl c sz rows) (i : Int) = some (.rptr c r) :=
  aindex_sl c sz rows i (Int.natCast_nonneg i) (by simpa using h)

/-- A cell that freezing leaves as it is. -/
def Frozen : PV → Prop
  | .val (.slice none 0 0) => False
  | .msl .. => False
  | _ => True

theorem frz_id {H : AS} {p : PV} (h : Frozen p) : frz H p = (p, H) := by
  unfold frz
  split
  · exact h.elim
  · exact h.elim
  · rfl

@[simp] theorem frzL_nil (H : AS) : frzL H [] = ([], H) := rfl
@[simp] theorem frzR_nil (H : AS) : frzR H [] = ([], H) := rfl

theorem frzL_id {H : AS} : ∀ {l : List PV}, (∀ p ∈ l, Frozen p) → frzL H l = (l, H)
  | [], _ => rfl
  | p :: ps, h => by
    have ih := frzL_id (H := H) (l := ps) fun q hq => h q (List.mem_cons_of_mem _ hq)
    simp [frzL, frz_id (h p (by simp)), ih]

theorem frzR_id {H : AS} : ∀ {l : List (List PV)}, (∀ r ∈ l, ∀ p ∈ r, Frozen p) → frzR H l = (l, H)
  | [], _ => rfl
  | r :: rs, h => by
    have ih := frzR_id (H := H) (l := rs) fun q hq => h q (List.mem_cons_of_mem _ hq)
    simp [frzR, frzL_id (h r (by simp)), ih]

@[simp] theorem frozen_sl (c sz : Nat) (rows : List (List PV)) : Frozen (PV.sl c sz rows) := by cases rows <;> trivial
@[simp] theorem frozen_int (k : IntKind) (n : Int) : Frozen (.val (.int k n)) := trivial
@[simp] theorem frozen_bool (b : Bool) : Frozen (.val (.bool b)) := trivial
@[simp] theorem frozen_string (s : ByteArray) : Frozen (.val (.string s)) := trivial
@[simp] theorem frozen_agg (cs : List PV) : Frozen (.agg cs) := trivial

theorem frzV_one {H : AS} {p : PV} (h : (∀ cs, p = .agg cs → ∀ x ∈ cs, Frozen x) ∧ Frozen p) : frzV H p = (p, H) := by
  cases p with
  | agg cs => simp [frzV, frzL_id (h.1 cs rfl)]
  | _ => exact frz_id h.2

/-- One result, that freezing leaves as it is; memory is as it was. -/
theorem owes_one {P : Program} {H : AS} {fn : Func} {r q : PV} {F' : AF} {H' : AS} {e : Exit} (he : e = .normal ∨ e = .ret) (hwf : WF H) (hr : aResults P F' H' fn.results.toList = some [r]) (hq : r = q)
    (hext : H.Ext H') (hf : (∀ cs, r = .agg cs → ∀ x ∈ cs, Frozen x) ∧ Frozen r) (hb : Below H.next r) : Owes P fn H (fun r H'' => r = q ∧ H'' = H) e F' H' := by
  subst hq
  refine owes_pure he hwf hr ?_ ?_ ?_ <;> simp [frzVs, frzV_one hf, packed]
  · exact hext
  · exact hb

@[simp] theorem below_sl {n c sz : Nat} {rows : List (List PV)} : Below n (PV.sl c sz rows) ↔ ∀ r ∈ rows, ∀ p ∈ r, Below n p := by cases rows <;> simp [PV.sl]

@[simp] theorem color_setBox (H : AS) (id : Nat) (rows : List (List PV)) : (H.setBox id rows).color = H.color := rfl
@[simp] theorem color_bump (H : AS) (n : Nat) : (H.bump n).color = H.color := rfl
@[simp] theorem color_kill (H : AS) (id : Nat) : (H.kill id).color = H.color := rfl
@[simp] theorem color_setMap (H : AS) (id : Nat) (es : List (Value × PV)) : (H.setMap id es).color = H.color := rfl
@[simp] theorem box_setBox (H : AS) (id i : Nat) (rows : List (List PV)) : (H.setBox id rows).box i = if i = id then some rows else H.box i := rfl
@[simp] theorem box_bump (H : AS) (n i : Nat) : (H.bump n).box i = H.box i := rfl
@[simp] theorem box_kill (H : AS) (id i : Nat) : (H.kill id).box i = if i = id then none else H.box i := rfl
@[simp] theorem box_setMap (H : AS) (id i : Nat) (es : List (Value × PV)) : (H.setMap id es).box i = H.box i := rfl
@[simp] theorem mp_setBox (H : AS) (id i : Nat) (rows : List (List PV)) : (H.setBox id rows).mp i = H.mp i := rfl
@[simp] theorem mp_bump (H : AS) (n i : Nat) : (H.bump n).mp i = H.mp i := rfl
@[simp] theorem mp_kill (H : AS) (id i : Nat) : (H.kill id).mp i = H.mp i := rfl
@[simp] theorem mp_setMap (H : AS) (id i : Nat) (es : List (Value × PV)) : (H.setMap id es).mp i = if i = id then some es else H.mp i := rfl
@[simp] theorem next_setBox (H : AS) (id : Nat) (rows : List (List PV)) : (H.setBox id rows).next = H.next := rfl
@[simp] theorem next_bump (H : AS) (n : Nat) : (H.bump n).next = H.next + n := rfl
@[simp] theorem next_kill (H : AS) (id : Nat) : (H.kill id).next = H.next := rfl
@[simp] theorem next_setMap (H : AS) (id : Nat) (es : List (Value × PV)) : (H.setMap id es).next = H.next := rfl

@[simp] theorem cells_int (k : IntKind) (n : Int) : PV.cells (.val (.int k n)) = [.val (.int k n)] := rfl
@[simp] theorem okCells_int (k : IntKind) (n : Int) : PV.okCells (.val (.int k n)) = true := rfl
@[simp] theorem atomic_int (k : IntKind) (n : Int) : PV.atomic (.val (.int k n)) = true := rfl
@[simp] theorem cells_bool (b : Bool) : PV.cells (.val (.bool b)) = [.val (.bool b)] := rfl
@[simp] theorem okCells_bool (b : Bool) : PV.okCells (.val (.bool b)) = true := rfl
@[simp] theorem atomic_bool (b : Bool) : PV.atomic (.val (.bool b)) = true := rfl
@[simp] theorem cells_string (s : ByteArray) : PV.cells (.val (.string s)) = [.val (.string s)] := rfl
@[simp] theorem okCells_string (s : ByteArray) : PV.okCells (.val (.string s)) = true := rfl
@[simp] theorem atomic_string (s : ByteArray) : PV.atomic (.val (.string s)) = true := rfl
@[simp] theorem cells_float (k : FloatKind) (n : Nat) : PV.cells (.val (.float k n)) = [.val (.float k n)] := rfl
@[simp] theorem okCells_float (k : FloatKind) (n : Nat) : PV.okCells (.val (.float k n)) = true := rfl
@[simp] theorem atomic_float (k : FloatKind) (n : Nat) : PV.atomic (.val (.float k n)) = true := rfl
@[simp] theorem cells_vslice (a : Option Addr) (l c : Nat) : PV.cells (.val (.slice a l c)) = [.val (.slice a l c)] := rfl
@[simp] theorem okCells_vslice (a : Option Addr) (l c : Nat) : PV.okCells (.val (.slice a l c)) = true := rfl
@[simp] theorem atomic_vslice (a : Option Addr) (l c : Nat) : PV.atomic (.val (.slice a l c)) = true := rfl
@[simp] theorem cells_pointer (a : Option Addr) : PV.cells (.val (.pointer a)) = [.val (.pointer a)] := rfl
@[simp] theorem okCells_pointer (a : Option Addr) : PV.okCells (.val (.pointer a)) = true := rfl
@[simp] theorem atomic_pointer (a : Option Addr) : PV.atomic (.val (.pointer a)) = true := rfl
@[simp] theorem cells_map (r : Option Nat) : PV.cells (.val (.map r)) = [.val (.map r)] := rfl
@[simp] theorem okCells_map (r : Option Nat) : PV.okCells (.val (.map r)) = true := rfl
@[simp] theorem atomic_map (r : Option Nat) : PV.atomic (.val (.map r)) = true := rfl
@[simp] theorem cells_nilFunc  : PV.cells (.val .nilFunc) = [.val .nilFunc] := rfl
@[simp] theorem okCells_nilFunc  : PV.okCells (.val .nilFunc) = true := rfl
@[simp] theorem atomic_nilFunc  : PV.atomic (.val .nilFunc) = true := rfl
@[simp] theorem cells_nilIface  : PV.cells (.val .nilIface) = [.val .nilIface] := rfl
@[simp] theorem okCells_nilIface  : PV.okCells (.val .nilIface) = true := rfl
@[simp] theorem atomic_nilIface  : PV.atomic (.val .nilIface) = true := rfl
@[simp] theorem cells_ptr (id vl row off : Nat) : PV.cells (.ptr id vl row off) = [.ptr id vl row off] := rfl
@[simp] theorem okCells_ptr (id vl row off : Nat) : PV.okCells (.ptr id vl row off) = true := rfl
@[simp] theorem atomic_ptr (id vl row off : Nat) : PV.atomic (.ptr id vl row off) = true := rfl
@[simp] theorem cells_rptr (c : Nat) (cells : List PV) : PV.cells (.rptr c cells) = [.rptr c cells] := rfl
@[simp] theorem okCells_rptr (c : Nat) (cells : List PV) : PV.okCells (.rptr c cells) = true := rfl
@[simp] theorem atomic_rptr (c : Nat) (cells : List PV) : PV.atomic (.rptr c cells) = true := rfl
@[simp] theorem cells_slice (c sz : Nat) (rows : List (List PV)) : PV.cells (.slice c sz rows) = [.slice c sz rows] := rfl
@[simp] theorem okCells_slice (c sz : Nat) (rows : List (List PV)) : PV.okCells (.slice c sz rows) = true := rfl
@[simp] theorem atomic_slice (c sz : Nat) (rows : List (List PV)) : PV.atomic (.slice c sz rows) = true := rfl
@[simp] theorem cells_sl (c sz : Nat) (rows : List (List PV)) : PV.cells (.sl c sz rows) = [.sl c sz rows] := by cases rows <;> rfl
@[simp] theorem okCells_sl (c sz : Nat) (rows : List (List PV)) : PV.okCells (.sl c sz rows) = true := by cases rows <;> rfl
@[simp] theorem atomic_sl (c sz : Nat) (rows : List (List PV)) : PV.atomic (.sl c sz rows) = true := by cases rows <;> rfl
@[simp] theorem cells_msl (id len sz : Nat) : PV.cells (.msl id len sz) = [.msl id len sz] := rfl
@[simp] theorem okCells_msl (id len sz : Nat) : PV.okCells (.msl id len sz) = true := rfl
@[simp] theorem atomic_msl (id len sz : Nat) : PV.atomic (.msl id len sz) = true := rfl
@[simp] theorem cells_func (f : FuncId) (caps : List PV) : PV.cells (.func f caps) = [.func f caps] := rfl
@[simp] theorem okCells_func (f : FuncId) (caps : List PV) : PV.okCells (.func f caps) = true := rfl
@[simp] theorem atomic_func (f : FuncId) (caps : List PV) : PV.atomic (.func f caps) = true := rfl
@[simp] theorem cells_iface (t : TypeId) (p : PV) : PV.cells (.iface t p) = [.iface t p] := rfl
@[simp] theorem okCells_iface (t : TypeId) (p : PV) : PV.okCells (.iface t p) = true := rfl
@[simp] theorem atomic_iface (t : TypeId) (p : PV) : PV.atomic (.iface t p) = true := rfl
@[simp] theorem cells_pmap (id : Nat) : PV.cells (.map id) = [.map id] := rfl
@[simp] theorem okCells_pmap (id : Nat) : PV.okCells (.map id) = true := rfl
@[simp] theorem atomic_pmap (id : Nat) : PV.atomic (.map id) = true := rfl
@[simp] theorem cells_agg (cs : List PV) : PV.cells (.agg cs) = cs := rfl
@[simp] theorem okCells_agg (cs : List PV) : PV.okCells (.agg cs) = true := rfl
@[simp] theorem atomic_agg (cs : List PV) : PV.atomic (.agg cs) = false := rfl

theorem sl_cons (c sz : Nat) (r : List PV) (rs : List (List PV)) : PV.sl c sz (r :: rs) = .slice c sz (r :: rs) := rfl

end
end Go.Abs
