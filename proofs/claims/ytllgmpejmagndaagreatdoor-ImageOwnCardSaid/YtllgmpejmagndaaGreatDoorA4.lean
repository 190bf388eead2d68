/- Texts of ours, merged: the abstract layer, the walks over the loaded functions, the plain laws. -/
import Derived.Test.YtllgmpejmagndaaGreatDoorA3
import Derived.Test.YtllgmpejmagndaaGreatDoorA2
import Derived.Shelf.Small.Strs
import Derived.Shelf.Strconv.Atoi
import Derived.Shelf.Strconv.Itoa0
import Derived.Shelf.Strconv.Itoa1
import Derived.Shelf.LaysM
import Derived.Shelf.Strconv.Itoa2
import Derived.Shelf.Strconv.Itoa3
import Derived.Shelf.Strconv.AtoiErrFast
import Derived.Shelf.Strconv.ParseIntEmpty
import Derived.Shelf.Strconv.AtoiFail
import Derived.Shelf.Strconv.Clone
import Derived.Shelf.Strconv.SyntaxError
import Derived.Shelf.LaysC
import Derived.Shelf.Strconv.ToError
import Derived.Shelf.Strconv.Lower
import Derived.Shelf.Strconv.ParseUint10
import Derived.Shelf.Strconv.ParseUint10Empty
import Derived.Shelf.Strconv.ParseUint10Any
import Derived.Shelf.Strconv.ParseInt10
import Derived.Shelf.Strconv.AtoiLong
import Derived.Shelf.Strconv.AtoiInnerAll
import Derived.Shelf.Strconv.RangeError
import Derived.Shelf.Strconv.ToErrorRange
import Derived.Shelf.Strconv.AtoiAll
import Derived.Shelf.Strconv.ErrVarAll
import Derived.Shelf.Strings.Search1
import Derived.Test.YtllgmpejmagndaaGreatDoorProg
namespace Go.Abs
open Go.Proofs
set_option autoImplicit false
set_option linter.all false
set_option maxRecDepth 100000
set_option maxHeartbeats 40000000
section
attribute [local simp ↓] wanted_at hbind_some
attribute [local simp] Gs_true Gs_false gcond_Gr Gr_true Gr_false abox frame0 int_beq int_bne aload astore partOf Keeps Same splice aUn aFieldAddr aField aBin aBinV aConvert aExtract aLen aBuild aBuild.go aalloc AS.Ext.refl AS.Ext.bump AS.Ext.setBox
attribute [local simp] DVal.row DOp.row DLook.row DFlat.row DType.row DNeed.row eq42 beq_bytes wrap_nn
def numberV (v : DVal) : Int × Bool := if mayV v = true then (if v.kind = 18 then (if mayV ({ kind := 18, bits := v.bits, text := v.text } : DVal) = true then (0, false) else (0, false)) else if v.kind = 19 then (0, false) else if unsignedB v.kind = true then (if 9223372036854775807 < v.bits then (0, false) else ((IntKind.wrap .i64 v.bits), true)) else if rowB v.kind = true then (if 9223372036854775807 < v.bits then (0, false) else ((IntKind.wrap .i64 v.bits), true)) else ((IntKind.wrap .i64 v.bits), true)) else (0, false)
theorem numberVIs (H : AS) (v : DVal) : ACalls Tryz.prog 102 [.agg (v.row)] H fun q H' => q = .tuple [pi (numberV v).1, pb (numberV v).2] ∧ H' = H := by
 refine ACalls_intro Tryz.func102 rfl (by kernel_rfl) (by simp) fun hwf hbel => ?_
 repeat' first
  | refine T_seq ?_
  | refine T_rgn ?_
  | refine T_cd ?_
  | refine T_sk ?_
  | refine T_rt ?_
  | refine T_block ?_
  | refine T_ex ?_
  | refine Kt_then ?_
  | refine Kt_block ?_
  | refine Kr_then ?_
  | refine Kr_block ?_
  | refine Ke_here ?_
  | refine Ke_then ?_
  | refine Hid.mk ?_
  | (refine callR (mayVIs _ ⟨_, _, _⟩) ?_; rintro _ Hz ⟨rfl, hz⟩; subst Hz)
  | (refine callR (unsignedIs _ _) ?_; rintro _ Hz ⟨rfl, hz⟩; subst Hz)
  | (refine callR (rowIs _ _) ?_; rintro _ Hz ⟨rfl, hz⟩; subst Hz)
  | (refine callR (signedIs _ _) ?_; rintro _ Hz ⟨rfl, hz⟩; subst Hz)
  | (refine callR (wholeIs _ _) ?_; rintro _ Hz ⟨rfl, hz⟩; subst Hz)
  | refine Gs.mk (fun g => ?_) (fun g => ?_) <;> (try simp only [nm] at g)
  | refine Gr.mk (fun g => ?_) (fun g => ?_) <;> (try simp only [nm] at g)
  | (refine Run.of ?_; simp (maxSteps := 1000000) [*])
 all_goals (refine Kx.mk ?_; refine owes_vals (qs := [pi (numberV v).1, pb (numberV v).2]) (.inr rfl) hwf rfl rfl ?_ ?_ ?_ ?_)
 all_goals (try simp (maxDischargeDepth := 20) [numberV, *])
 all_goals simp_all
def fitsT (t : DType) (v : DVal) : Int := if t.max < 1 then (if mayV v = true then (if v.kind = t.kind then (if t.sub = true then (if wholeB t.kind = true then (if (numberV ({ kind := t.kind, bits := v.bits, text := v.text } : DVal)).2 = true then (if (numberV ({ kind := t.kind, bits := v.bits, text := v.text } : DVal)).1 < t.lo then 3 else if t.hi < (numberV ({ kind := t.kind, bits := v.bits, text := v.text } : DVal)).1 then 3 else 0) else 3) else if t.kind = 19 then (if 254 < (v.text.size : Int) then 5 else 0) else 0) else if t.kind = 19 then (if 254 < (v.text.size : Int) then 5 else 0) else 0) else 8) else 8) else if mayV v = true then (if v.kind = t.kind then (if t.sub = true then (if wholeB t.kind = true then (if (numberV ({ kind := t.kind, bits := v.bits, text := v.text } : DVal)).2 = true then (if (numberV ({ kind := t.kind, bits := v.bits, text := v.text } : DVal)).1 < t.lo then 3 else if t.hi < (numberV ({ kind := t.kind, bits := v.bits, text := v.text } : DVal)).1 then 3 else 0) else 3) else if t.kind = 19 then (if t.max < (v.text.size : Int) then 5 else 0) else 0) else if t.kind = 19 then (if t.max < (v.text.size : Int) then 5 else 0) else 0) else 8) else 8
theorem fitsTIs (H : AS) (t : DType) (v : DVal) : ACalls Tryz.prog 80 [.agg (t.row), .agg (v.row)] H fun q H' => q = pi (fitsT t v) ∧ H' = H := by
 refine ACalls_intro Tryz.func80 rfl (by kernel_rfl) (by simp) fun hwf hbel => ?_
 repeat' first
  | refine T_seq ?_
  | refine T_rgn ?_
  | refine T_cd ?_
  | refine T_sk ?_
  | refine T_rt ?_
  | refine T_block ?_
  | refine T_ex ?_
  | refine Kt_then ?_
  | refine Kt_block ?_
  | refine Kr_then ?_
  | refine Kr_block ?_
  | refine Ke_here ?_
  | refine Ke_then ?_
  | refine Hid.mk ?_
  | (refine callR (mayVIs _ ⟨_, _, _⟩) ?_; rintro _ Hz ⟨rfl, hz⟩; subst Hz)
  | (refine callR (unsignedIs _ _) ?_; rintro _ Hz ⟨rfl, hz⟩; subst Hz)
  | (refine callR (rowIs _ _) ?_; rintro _ Hz ⟨rfl, hz⟩; subst Hz)
  | (refine callR (signedIs _ _) ?_; rintro _ Hz ⟨rfl, hz⟩; subst Hz)
  | (refine callR (wholeIs _ _) ?_; rintro _ Hz ⟨rfl, hz⟩; subst Hz)
  | (refine callR (numberVIs _ ⟨_, _, _⟩) ?_; rintro _ Hz ⟨rfl, hz⟩; subst Hz)
  | refine Gs.mk (fun g => ?_) (fun g => ?_) <;> (try simp only [nm] at g)
  | refine Gr.mk (fun g => ?_) (fun g => ?_) <;> (try simp only [nm] at g)
  | (refine Run.of ?_; simp (maxSteps := 1000000) [*])
 all_goals (refine Kx.mk ?_; refine owes_one (.inr rfl) hwf rfl ?_ ?_ ?_ ?_)
 all_goals (try simp (maxDischargeDepth := 20) [fitsT, *])
 all_goals simp_all
def zeroB (n : DNeed) (o : DOp) : Bool := if n.a = true then (if o.a = 0 then (if n.b = true then (if o.b = 0 then (if n.c = true then (if o.c = 0 then (if n.d = true then (if o.d = 0 then (if n.bounds = true then (if o.lo = 0 then (if o.hi = 0 then (if n.value = true then (if eqv o.value.kind o.value.bits o.value.text 0 0 ⟨#[]⟩ = true then true else false) else true) else false) else false) else if n.value = true then (if eqv o.value.kind o.value.bits o.value.text 0 0 ⟨#[]⟩ = true then true else false) else true) else false) else if n.bounds = true then (if o.lo = 0 then (if o.hi = 0 then (if n.value = true then (if eqv o.value.kind o.value.bits o.value.text 0 0 ⟨#[]⟩ = true then true else false) else true) else false) else false) else if n.value = true then (if eqv o.value.kind o.value.bits o.value.text 0 0 ⟨#[]⟩ = true then true else false) else true) else false) else if n.d = true then (if o.d = 0 then (if n.bounds = true then (if o.lo = 0 then (if o.hi = 0 then (if n.value = true then (if eqv o.value.kind o.value.bits o.value.text 0 0 ⟨#[]⟩ = true then true else false) else true) else false) else false) else if n.value = true then (if eqv o.value.kind o.value.bits o.value.text 0 0 ⟨#[]⟩ = true then true else false) else true) else false) else if n.bounds = true then (if o.lo = 0 then (if o.hi = 0 then (if n.value = true then (if eqv o.value.kind o.value.bits o.value.text 0 0 ⟨#[]⟩ = true then true else false) else true) else false) else false) else if n.value = true then (if eqv o.value.kind o.value.bits o.value.text 0 0 ⟨#[]⟩ = true then true else false) else true) else false) else if n.c = true then (if o.c = 0 then (if n.d = true then (if o.d = 0 then (if n.bounds = true then (if o.lo = 0 then (if o.hi = 0 then (if n.value = true then (if eqv o.value.kind o.value.bits o.value.text 0 0 ⟨#[]⟩ = true then true else false) else true) else false) else false) else if n.value = true then (if eqv o.value.kind o.value.bits o.value.text 0 0 ⟨#[]⟩ = true then true else false) else true) else false) else if n.bounds = true then (if o.lo = 0 then (if o.hi = 0 then (if n.value = true then (if eqv o.value.kind o.value.bits o.value.text 0 0 ⟨#[]⟩ = true then true else false) else true) else false) else false) else if n.value = true then (if eqv o.value.kind o.value.bits o.value.text 0 0 ⟨#[]⟩ = true then true else false) else true) else false) else if n.d = true then (if o.d = 0 then (if n.bounds = true then (if o.lo = 0 then (if o.hi = 0 then (if n.value = true then (if eqv o.value.kind o.value.bits o.value.text 0 0 ⟨#[]⟩ = true then true else false) else true) else false) else false) else if n.value = true then (if eqv o.value.kind o.value.bits o.value.text 0 0 ⟨#[]⟩ = true then true else false) else true) else false) else if n.bounds = true then (if o.lo = 0 then (if o.hi = 0 then (if n.value = true then (if eqv o.value.kind o.value.bits o.value.text 0 0 ⟨#[]⟩ = true then true else false) else true) else false) else false) else if n.value = true then (if eqv o.value.kind o.value.bits o.value.text 0 0 ⟨#[]⟩ = true then true else false) else true) else false) else if n.b = true then (if o.b = 0 then (if n.c = true then (if o.c = 0 then (if n.d = true then (if o.d = 0 then (if n.bounds = true then (if o.lo = 0 then (if o.hi = 0 then (if n.value = true then (if eqv o.value.kind o.value.bits o.value.text 0 0 ⟨#[]⟩ = true then true else false) else true) else false) else false) else if n.value = true then (if eqv o.value.kind o.value.bits o.value.text 0 0 ⟨#[]⟩ = true then true else false) else true) else false) else if n.bounds = true then (if o.lo = 0 then (if o.hi = 0 then (if n.value = true then (if eqv o.value.kind o.value.bits o.value.text 0 0 ⟨#[]⟩ = true then true else false) else true) else false) else false) else if n.value = true then (if eqv o.value.kind o.value.bits o.value.text 0 0 ⟨#[]⟩ = true then true else false) else true) else false) else if n.d = true then (if o.d = 0 then (if n.bounds = true then (if o.lo = 0 then (if o.hi = 0 then (if n.value = true then (if eqv o.value.kind o.value.bits o.value.text 0 0 ⟨#[]⟩ = true then true else false) else true) else false) else false) else if n.value = true then (if eqv o.value.kind o.value.bits o.value.text 0 0 ⟨#[]⟩ = true then true else false) else true) else false) else if n.bounds = true then (if o.lo = 0 then (if o.hi = 0 then (if n.value = true then (if eqv o.value.kind o.value.bits o.value.text 0 0 ⟨#[]⟩ = true then true else false) else true) else false) else false) else if n.value = true then (if eqv o.value.kind o.value.bits o.value.text 0 0 ⟨#[]⟩ = true then true else false) else true) else false) else if n.c = true then (if o.c = 0 then (if n.d = true then (if o.d = 0 then (if n.bounds = true then (if o.lo = 0 then (if o.hi = 0 then (if n.value = true then (if eqv o.value.kind o.value.bits o.value.text 0 0 ⟨#[]⟩ = true then true else false) else true) else false) else false) else if n.value = true then (if eqv o.value.kind o.value.bits o.value.text 0 0 ⟨#[]⟩ = true then true else false) else true) else false) else if n.bounds = true then (if o.lo = 0 then (if o.hi = 0 then (if n.value = true then (if eqv o.value.kind o.value.bits o.value.text 0 0 ⟨#[]⟩ = true then true else false) else true) else false) else false) else if n.value = true then (if eqv o.value.kind o.value.bits o.value.text 0 0 ⟨#[]⟩ = true then true else false) else true) else false) else if n.d = true then (if o.d = 0 then (if n.bounds = true then (if o.lo = 0 then (if o.hi = 0 then (if n.value = true then (if eqv o.value.kind o.value.bits o.value.text 0 0 ⟨#[]⟩ = true then true else false) else true) else false) else false) else if n.value = true then (if eqv o.value.kind o.value.bits o.value.text 0 0 ⟨#[]⟩ = true then true else false) else true) else false) else if n.bounds = true then (if o.lo = 0 then (if o.hi = 0 then (if n.value = true then (if eqv o.value.kind o.value.bits o.value.text 0 0 ⟨#[]⟩ = true then true else false) else true) else false) else false) else if n.value = true then (if eqv o.value.kind o.value.bits o.value.text 0 0 ⟨#[]⟩ = true then true else false) else true
theorem zeroIs (H : AS) (n : DNeed) (o : DOp) : ACalls Tryz.prog 110 [.agg (n.row), .agg (o.row)] H fun q H' => q = pb (zeroB n o) ∧ H' = H := by
 refine ACalls_intro Tryz.func110 rfl (by kernel_rfl) (by simp) fun hwf hbel => ?_
 repeat' first
  | refine T_seq ?_
  | refine T_rgn ?_
  | refine T_cd ?_
  | refine T_sk ?_
  | refine T_rt ?_
  | refine T_block ?_
  | refine T_ex ?_
  | refine Kt_then ?_
  | refine Kt_block ?_
  | refine Kr_then ?_
  | refine Kr_block ?_
  | refine Ke_here ?_
  | refine Ke_then ?_
  | refine Hid.mk ?_
  | refine Gs.mk (fun g => ?_) (fun g => ?_) <;> (try simp only [nm] at g)
  | refine Gr.mk (fun g => ?_) (fun g => ?_) <;> (try simp only [nm] at g)
  | (refine Run.of ?_; simp (maxSteps := 1000000) [*])
 all_goals (refine Kx.mk ?_; refine owes_one (.inr rfl) hwf rfl ?_ ?_ ?_ ?_)
 all_goals (try simp (maxDischargeDepth := 20) [zeroB, *])
 all_goals simp_all
def flowB (k : DLook) (o : DOp) : Bool := if o.code = 16 then (if placeB k o.b = true then (if zeroB ({ a := true, b := false, c := true, d := true, bounds := true, value := true } : DNeed) ({ code := 16, a := o.a, b := o.b, c := o.c, d := o.d, lo := o.lo, hi := o.hi, value := o.value } : DOp) = true then true else false) else false) else if o.code = 17 then (if regB k o.a = true then (if placeB k o.b = true then (if zeroB ({ a := false, b := false, c := true, d := true, bounds := true, value := true } : DNeed) ({ code := 17, a := o.a, b := o.b, c := o.c, d := o.d, lo := o.lo, hi := o.hi, value := o.value } : DOp) = true then true else false) else false) else false) else if o.code = 18 then (if 0 ≤ o.b then (if o.b < k.codes then (if areaB o.c = true then (if numberB o.d 4096 = true then (if zeroB ({ a := true, b := false, c := false, d := false, bounds := true, value := true } : DNeed) ({ code := 18, a := o.a, b := o.b, c := o.c, d := o.d, lo := o.lo, hi := o.hi, value := o.value } : DOp) = true then true else false) else false) else false) else false) else false) else if o.code = 19 then (if 1 ≤ o.b then (if o.b ≤ 10 then (if areaB o.c = true then (if numberB o.d 4096 = true then (if zeroB ({ a := true, b := false, c := false, d := false, bounds := true, value := true } : DNeed) ({ code := 19, a := o.a, b := o.b, c := o.c, d := o.d, lo := o.lo, hi := o.hi, value := o.value } : DOp) = true then true else false) else false) else false) else false) else false) else if o.code = 20 then (if 1 ≤ o.a then (if o.a ≤ 10 then (if zeroB ({ a := false, b := true, c := true, d := true, bounds := true, value := true } : DNeed) ({ code := 20, a := o.a, b := o.b, c := o.c, d := o.d, lo := o.lo, hi := o.hi, value := o.value } : DOp) = true then true else false) else false) else false) else if o.code = 21 then (if zeroB ({ a := true, b := true, c := true, d := true, bounds := true, value := true } : DNeed) ({ code := 21, a := o.a, b := o.b, c := o.c, d := o.d, lo := o.lo, hi := o.hi, value := o.value } : DOp) = true then true else false) else if o.code = 22 then (if regB k o.a = true then (if slotB k o.b = true then (if zeroB ({ a := false, b := false, c := true, d := true, bounds := true, value := true } : DNeed) ({ code := 22, a := o.a, b := o.b, c := o.c, d := o.d, lo := o.lo, hi := o.hi, value := o.value } : DOp) = true then true else false) else false) else false) else if o.code = 23 then (if regB k o.a = true then (if slotB k o.b = true then (if zeroB ({ a := false, b := false, c := true, d := true, bounds := true, value := true } : DNeed) ({ code := 23, a := o.a, b := o.b, c := o.c, d := o.d, lo := o.lo, hi := o.hi, value := o.value } : DOp) = true then true else false) else false) else false) else false
theorem flowIs (H : AS)  (c : Nat) (k : DLook) (o : DOp) : ACalls Tryz.prog 109 [.agg (k.row c), .agg (o.row)] H fun q H' => q = pb (flowB k o) ∧ H' = H := by
 refine ACalls_intro Tryz.func109 rfl (by kernel_rfl) (by simp) fun hwf hbel => ?_
 repeat' first
  | refine T_seq ?_
  | refine T_rgn ?_
  | refine T_cd ?_
  | refine T_sk ?_
  | refine T_rt ?_
  | refine T_block ?_
  | refine T_ex ?_
  | refine Kt_then ?_
  | refine Kt_block ?_
  | refine Kr_then ?_
  | refine Kr_block ?_
  | refine Ke_here ?_
  | refine Ke_then ?_
  | refine Hid.mk ?_
  | (refine callR (regIs _ c ⟨⟨_, _, _, _, _, _, _, _⟩, _⟩ _) ?_; rintro _ Hz ⟨rfl, hz⟩; subst Hz)
  | (refine callR (slotIs _ c ⟨⟨_, _, _, _, _, _, _, _⟩, _⟩ _) ?_; rintro _ Hz ⟨rfl, hz⟩; subst Hz)
  | (refine callR (placeIs _ c ⟨⟨_, _, _, _, _, _, _, _⟩, _⟩ _) ?_; rintro _ Hz ⟨rfl, hz⟩; subst Hz)
  | (refine callR (areaIs _ _) ?_; rintro _ Hz ⟨rfl, hz⟩; subst Hz)
  | (refine callR (numberIs _ _ _) ?_; rintro _ Hz ⟨rfl, hz⟩; subst Hz)
  | (refine callR (nearIs _ _ _) ?_; rintro _ Hz ⟨rfl, hz⟩; subst Hz)
  | (refine callR (zeroIs _ ⟨_, _, _, _, _, _⟩ ⟨_, _, _, _, _, _, _, ⟨_, _, _⟩⟩) ?_; rintro _ Hz ⟨rfl, hz⟩; subst Hz)
  | (refine callR (mayVIs _ ⟨_, _, _⟩) ?_; rintro _ Hz ⟨rfl, hz⟩; subst Hz)
  | refine Gs.mk (fun g => ?_) (fun g => ?_) <;> (try simp only [nm] at g)
  | refine Gr.mk (fun g => ?_) (fun g => ?_) <;> (try simp only [nm] at g)
  | (refine Run.of ?_; simp (maxSteps := 1000000) [*, Nat.add_assoc])
 all_goals (refine Kx.mk ?_; refine owes_one (.inr rfl) hwf rfl ?_ ?_ ?_ ?_)
 all_goals (try simp (maxDischargeDepth := 20) [flowB, *])
 all_goals simp_all
def mayO (k : DLook) (o : DOp) : Bool := if o.code = 1 then (if regB k o.a = true then (if mayV o.value = true then (if zeroB ({ a := false, b := true, c := true, d := true, bounds := true, value := false } : DNeed) ({ code := 1, a := o.a, b := o.b, c := o.c, d := o.d, lo := o.lo, hi := o.hi, value := o.value } : DOp) = true then true else false) else if eqv o.value.kind o.value.bits o.value.text 20 0 ⟨#[]⟩ = true then (if zeroB ({ a := false, b := true, c := true, d := true, bounds := true, value := false } : DNeed) ({ code := 1, a := o.a, b := o.b, c := o.c, d := o.d, lo := o.lo, hi := o.hi, value := o.value } : DOp) = true then true else false) else false) else false) else if o.code = 2 then (if regB k o.a = true then (if regB k o.b = true then (if zeroB ({ a := false, b := false, c := true, d := true, bounds := true, value := true } : DNeed) ({ code := 2, a := o.a, b := o.b, c := o.c, d := o.d, lo := o.lo, hi := o.hi, value := o.value } : DOp) = true then true else false) else false) else false) else if o.code = 3 then (if regB k o.a = true then (if areaB o.b = true then (if numberB o.c 4096 = true then (if zeroB ({ a := false, b := false, c := false, d := true, bounds := true, value := true } : DNeed) ({ code := 3, a := o.a, b := o.b, c := o.c, d := o.d, lo := o.lo, hi := o.hi, value := o.value } : DOp) = true then true else false) else false) else false) else false) else if o.code = 4 then (if regB k o.a = true then (if areaB o.b = true then (if numberB o.c 4096 = true then (if zeroB ({ a := false, b := false, c := false, d := true, bounds := true, value := true } : DNeed) ({ code := 4, a := o.a, b := o.b, c := o.c, d := o.d, lo := o.lo, hi := o.hi, value := o.value } : DOp) = true then true else false) else false) else false) else false) else if o.code = 7 then (if regB k o.a = true then (if areaB o.b = true then (if numberB o.c 4096 = true then (if zeroB ({ a := false, b := false, c := false, d := true, bounds := true, value := true } : DNeed) ({ code := 7, a := o.a, b := o.b, c := o.c, d := o.d, lo := o.lo, hi := o.hi, value := o.value } : DOp) = true then true else false) else false) else false) else false) else if o.code = 5 then (if regB k o.a = true then (if areaB o.b = true then (if numberB o.c 4096 = true then (if regB k o.d = true then (if nearB o.lo o.hi = true then (if zeroB ({ a := false, b := false, c := false, d := false, bounds := false, value := true } : DNeed) ({ code := 5, a := o.a, b := o.b, c := o.c, d := o.d, lo := o.lo, hi := o.hi, value := o.value } : DOp) = true then true else false) else false) else false) else false) else false) else false) else if o.code = 6 then (if regB k o.a = true then (if areaB o.b = true then (if numberB o.c 4096 = true then (if regB k o.d = true then (if nearB o.lo o.hi = true then (if zeroB ({ a := false, b := false, c := false, d := false, bounds := false, value := true } : DNeed) ({ code := 6, a := o.a, b := o.b, c := o.c, d := o.d, lo := o.lo, hi := o.hi, value := o.value } : DOp) = true then true else false) else false) else false) else false) else false) else false) else if o.code = 8 then (if regB k o.a = true then (if areaB o.b = true then (if numberB o.c 4096 = true then (if regB k o.d = true then (if nearB o.lo o.hi = true then (if zeroB ({ a := false, b := false, c := false, d := false, bounds := false, value := true } : DNeed) ({ code := 8, a := o.a, b := o.b, c := o.c, d := o.d, lo := o.lo, hi := o.hi, value := o.value } : DOp) = true then true else false) else false) else false) else false) else false) else false) else if o.code = 9 then (if regB k o.a = true then (if regB k o.b = true then (if regB k o.c = true then (if 1 ≤ o.d then (if o.d ≤ 14 then (if zeroB ({ a := false, b := false, c := false, d := false, bounds := true, value := true } : DNeed) ({ code := 9, a := o.a, b := o.b, c := o.c, d := o.d, lo := o.lo, hi := o.hi, value := o.value } : DOp) = true then true else false) else false) else false) else false) else false) else false) else if o.code = 10 then (if regB k o.a = true then (if regB k o.b = true then (if o.d = 15 then (if zeroB ({ a := false, b := false, c := true, d := false, bounds := true, value := true } : DNeed) ({ code := 10, a := o.a, b := o.b, c := o.c, d := 15, lo := o.lo, hi := o.hi, value := o.value } : DOp) = true then true else false) else if o.d = 16 then (if zeroB ({ a := false, b := false, c := true, d := false, bounds := true, value := true } : DNeed) ({ code := 10, a := o.a, b := o.b, c := o.c, d := 16, lo := o.lo, hi := o.hi, value := o.value } : DOp) = true then true else false) else false) else false) else false) else if o.code = 11 then (if regB k o.a = true then (if regB k o.b = true then (if 1 ≤ o.d then (if o.d ≤ 19 then (if zeroB ({ a := false, b := false, c := true, d := false, bounds := true, value := true } : DNeed) ({ code := 11, a := o.a, b := o.b, c := o.c, d := o.d, lo := o.lo, hi := o.hi, value := o.value } : DOp) = true then true else false) else false) else false) else false) else false) else if o.code = 12 then (if regB k o.a = true then (if zeroB ({ a := false, b := true, c := true, d := true, bounds := true, value := true } : DNeed) ({ code := 12, a := o.a, b := o.b, c := o.c, d := o.d, lo := o.lo, hi := o.hi, value := o.value } : DOp) = true then true else false) else false) else if o.code = 13 then (if regB k o.a = true then (if numberB o.c 16 = true then (if numberB o.d 255 = true then (if zeroB ({ a := false, b := true, c := false, d := false, bounds := true, value := true } : DNeed) ({ code := 13, a := o.a, b := o.b, c := o.c, d := o.d, lo := o.lo, hi := o.hi, value := o.value } : DOp) = true then true else false) else false) else false) else false) else if o.code = 14 then (if regB k o.a = true then (if o.lo ≤ o.hi then (if zeroB ({ a := false, b := true, c := true, d := true, bounds := false, value := true } : DNeed) ({ code := 14, a := o.a, b := o.b, c := o.c, d := o.d, lo := o.lo, hi := o.hi, value := o.value } : DOp) = true then true else false) else false) else false) else if o.code = 15 then (if regB k o.a = true then (if o.lo = 0 then (if numberB o.hi 254 = true then (if zeroB ({ a := false, b := true, c := true, d := true, bounds := false, value := true } : DNeed) ({ code := 15, a := o.a, b := o.b, c := o.c, d := o.d, lo := 0, hi := o.hi, value := o.value } : DOp) = true then true else false) else false) else false) else false) else if flowB k o = true then true else false
theorem mayOIs (H : AS)  (c : Nat) (k : DLook) (o : DOp) : ACalls Tryz.prog 84 [.agg (k.row c), .agg (o.row)] H fun q H' => q = pb (mayO k o) ∧ H' = H := by
 refine ACalls_intro Tryz.func84 rfl (by kernel_rfl) (by simp) fun hwf hbel => ?_
 repeat' first
  | refine T_seq ?_
  | refine T_rgn ?_
  | refine T_cd ?_
  | refine T_sk ?_
  | refine T_rt ?_
  | refine T_block ?_
  | refine T_ex ?_
  | refine Kt_then ?_
  | refine Kt_block ?_
  | refine Kr_then ?_
  | refine Kr_block ?_
  | refine Ke_here ?_
  | refine Ke_then ?_
  | refine Hid.mk ?_
  | (refine callR (regIs _ c ⟨⟨_, _, _, _, _, _, _, _⟩, _⟩ _) ?_; rintro _ Hz ⟨rfl, hz⟩; subst Hz)
  | (refine callR (slotIs _ c ⟨⟨_, _, _, _, _, _, _, _⟩, _⟩ _) ?_; rintro _ Hz ⟨rfl, hz⟩; subst Hz)
  | (refine callR (placeIs _ c ⟨⟨_, _, _, _, _, _, _, _⟩, _⟩ _) ?_; rintro _ Hz ⟨rfl, hz⟩; subst Hz)
  | (refine callR (areaIs _ _) ?_; rintro _ Hz ⟨rfl, hz⟩; subst Hz)
  | (refine callR (numberIs _ _ _) ?_; rintro _ Hz ⟨rfl, hz⟩; subst Hz)
  | (refine callR (nearIs _ _ _) ?_; rintro _ Hz ⟨rfl, hz⟩; subst Hz)
  | (refine callR (zeroIs _ ⟨_, _, _, _, _, _⟩ ⟨_, _, _, _, _, _, _, ⟨_, _, _⟩⟩) ?_; rintro _ Hz ⟨rfl, hz⟩; subst Hz)
  | (refine callR (mayVIs _ ⟨_, _, _⟩) ?_; rintro _ Hz ⟨rfl, hz⟩; subst Hz)
  | (refine callR (flowIs _ c ⟨⟨_, _, _, _, _, _, _, _⟩, _⟩ ⟨_, _, _, _, _, _, _, ⟨_, _, _⟩⟩) ?_; rintro _ Hz ⟨rfl, hz⟩; subst Hz)
  | refine Gs.mk (fun g => ?_) (fun g => ?_) <;> (try simp only [nm] at g)
  | refine Gr.mk (fun g => ?_) (fun g => ?_) <;> (try simp only [nm] at g)
  | (refine Run.of ?_; simp (maxSteps := 1000000) [*, Nat.add_assoc])
 all_goals (refine Kx.mk ?_; refine owes_one (.inr rfl) hwf rfl ?_ ?_ ?_ ?_)
 all_goals (try simp (maxDischargeDepth := 20) [mayO, *])
 all_goals simp_all
end
section
def nth {α : Type} [Inhabited α] (xs : List α) (i : Int) : α := (xs[i.toNat]?).getD default
instance : Inhabited DVal := ⟨⟨0, 0, ⟨#[]⟩⟩⟩
instance : Inhabited DCell := ⟨⟨0, false, 0, 0, 0, default, false, 0, ⟨#[]⟩⟩⟩
instance : Inhabited DOp := ⟨⟨0, 0, 0, 0, 0, 0, 0, default⟩⟩
instance : Inhabited DLoop := ⟨⟨0, 0, 0⟩⟩
instance : Inhabited DFlat := ⟨⟨⟨#[]⟩, 0, 0, 0, 0, 0, [], []⟩⟩
instance : Inhabited DJob := ⟨⟨⟨#[]⟩, 0, 0, 0, [], [], 0⟩⟩
theorem nth_get {α : Type} [Inhabited α] (xs : List α) (i : Nat) (h : i < xs.length) : nth xs (i : Int) = xs[i] := by unfold nth; simp [h]
theorem idx_list {α : Type} [Inhabited α] {P : Program} {t e : TypeId} {sz c : Nat} (hu : P.underlying t = some (.slice e)) (hs : szOf P e = some sz) (f : α → List PV) (xs : List α) (i : Int) (h0 : 0 ≤ i) (h1 : i < (xs.length : Int)) :
  aIndexAddr P t (PV.sl c sz (xs.map f)) (pi i) = some (.rptr c (f (nth xs i))) := by
 have hg : (xs.map f)[i.toNat]? = some (f (nth xs i)) := by
  unfold nth
  rw [List.getElem?_map, List.getElem?_eq_getElem (show i.toNat < xs.length by omega)]; rfl
 have := sl_get (c := c) (sz := sz) hg
 rw [Int.toNat_of_nonneg h0] at this
 simp [aIndexAddr, hu, hs, this]
theorem idx22 (c : Nat) (xs : List DCell) (i : Int) (h0 : 0 ≤ i) (h1 : i < (xs.length : Int)) : aIndexAddr Tryz.prog 22 (PV.sl c 11 (xs.map DCell.row)) (pi i) = some (.rptr c (DCell.row (nth xs i))) := idx_list (e := 44) (by kernel_rfl) (by kernel_rfl) _ _ _ h0 h1
theorem idx23 (c : Nat) (xs : List DFlat) (i : Int) (h0 : 0 ≤ i) (h1 : i < (xs.length : Int)) : aIndexAddr Tryz.prog 23 (PV.sl c 8 (xs.map (DFlat.row c))) (pi i) = some (.rptr c (DFlat.row c (nth xs i))) := idx_list (e := 48) (by kernel_rfl) (by kernel_rfl) _ _ _ h0 h1
theorem idx24 (c : Nat) (xs : List DJob) (i : Int) (h0 : 0 ≤ i) (h1 : i < (xs.length : Int)) : aIndexAddr Tryz.prog 24 (PV.sl c 7 (xs.map (DJob.row c))) (pi i) = some (.rptr c (DJob.row c (nth xs i))) := idx_list (e := 55) (by kernel_rfl) (by kernel_rfl) _ _ _ h0 h1
theorem idx45 (c : Nat) (xs : List DOp) (i : Int) (h0 : 0 ≤ i) (h1 : i < (xs.length : Int)) : aIndexAddr Tryz.prog 45 (PV.sl c 10 (xs.map DOp.row)) (pi i) = some (.rptr c (DOp.row (nth xs i))) := idx_list (e := 50) (by kernel_rfl) (by kernel_rfl) _ _ _ h0 h1
theorem idx46 (c : Nat) (xs : List DLoop) (i : Int) (h0 : 0 ≤ i) (h1 : i < (xs.length : Int)) : aIndexAddr Tryz.prog 46 (PV.sl c 3 (xs.map DLoop.row)) (pi i) = some (.rptr c (DLoop.row (nth xs i))) := idx_list (e := 52) (by kernel_rfl) (by kernel_rfl) _ _ _ h0 h1
theorem idx53 (c : Nat) (xs : List Int) (i : Int) (h0 : 0 ≤ i) (h1 : i < (xs.length : Int)) : aIndexAddr Tryz.prog 53 (PV.sl c 1 (xs.map irow)) (pi i) = some (.rptr c (irow (nth xs i))) := idx_list (e := 3) (by kernel_rfl) (by kernel_rfl) _ _ _ h0 h1
def byteAt (s : ByteArray) (i : Int) : Int := ((s.data.toList[i.toNat]?).getD 0).toNat
theorem idx9 (s : ByteArray) (i : Int) (h0 : 0 ≤ i) (h1 : i < (s.size : Int)) : aIndex Tryz.prog 9 (.val (.string s)) (pi i) = some (.val (.int .u8 (byteAt s i))) := by
 have hu : Tryz.prog.underlying 9 = some .string := by kernel_rfl
 have hlt : i.toNat < s.size := by omega
 have e : byteAt s i = ((s[i.toNat]'hlt).toNat : Int) := by
  unfold byteAt
  rw [List.getElem?_eq_getElem (by simpa using hlt)]; rfl
 simp [aIndex, hu, h0, hlt, e]
theorem size_pos {s : ByteArray} (h : ¬ s = ⟨#[]⟩) : (0 : Int) < (s.size : Int) := by
 have : s.size ≠ 0 := fun e => h (by cases s with | mk d => congr 1; exact Array.eq_empty_of_size_eq_zero e)
 omega
def nameB (s : ByteArray) : Bool := if s = ⟨#[]⟩ then false else if 24 < (s.size : Int) then false else if letterB (byteAt s 0) = true then (List.range s.size).all (fun i => inWordB (byteAt s i)) else false
attribute [local simp] frame0 nx2 nx3 nx2' bump_setBox setBox_setBox beq_bytes wrap_nn int_beq int_bne DVal.row DOp.row DLook.row DFlat.row DType.row DNeed.row DCell.row eq42 DImage.row DJob.row DLoop.row irow idx22 idx23 idx24 idx45 idx46 idx53 idx9 aBin aBinV aLen partOf aUn AS.Ext.refl AS.Ext.bump AS.Ext.setBox AS.Ext.kill AS.Ext.setMap
theorem isNameIs (H : AS) (s : ByteArray) : ACalls Tryz.prog 35 [ps s] H fun q H' => q = pb (nameB s) ∧ H' = H := by
 refine ACalls_intro Tryz.func35 rfl (by kernel_rfl) (by simp) fun hwf hbel => ?_
 refine T_sr fun K0 hK0 => ?_
 simp
 apply hK0
 refine T_seqk fun K1 hK1 => ?_
 refine T_seqk fun K2 hK2 => ?_
 by_cases h0 : s = ⟨#[]⟩
 refine T_rg ?_
 simp [h0]
 apply hK2
 refine T_condT (by first | rfl | simp [h0]) ?_
 refine T_sr fun K3 hK3 => ?_
 simp [h0]
 apply hK3
 refine T_ret ?_
 try simp only [kr]
 exact owes_one (.inr rfl) hwf rfl (by rw [show nameB s = false from by
   simp only [nameB, if_pos h0]] <;> simp) (by simp (maxDischargeDepth := 20)) (by simp) (by simp)
 by_cases h1 : 24 < (s.size : Int)
 refine T_rg ?_
 have hs0 := size_pos h0
 have hs1 : 0 < s.size := by omega
 simp [h0, h1, hs0, hs1]
 apply hK2
 refine T_condT (by first | rfl | simp [h0, h1]) ?_
 refine T_sr fun K4 hK4 => ?_
 simp [h0, h1]
 apply hK4
 refine T_ret ?_
 try simp only [kr]
 exact owes_one (.inr rfl) hwf rfl (by rw [show nameB s = false from by
   simp only [nameB, if_neg h0, if_pos h1]] <;> simp) (by simp (maxDischargeDepth := 20)) (by simp) (by simp)
 refine T_rg ?_
 have hs0 := size_pos h0
 have hs1 : 0 < s.size := by omega
 simp [h0, h1, hs0, hs1]
 refine callK.of (letterIs _ (byteAt s 0)) ?_
 rintro _ Hz ⟨rfl, hz⟩
 subst Hz
 simp [h0, h1, hs0, hs1]
 apply hK2
 by_cases h2 : letterB (byteAt s 0) = true
 refine T_condF (by first | rfl | simp [h0, h1, h2]) ?_
 refine T_skip ?_
 try simp only [kn]
 apply hK1
 refine T_seqk fun K5 hK5 => ?_
 refine T_sr fun K6 hK6 => ?_
 simp [h0, h1, h2]
 apply hK6
 refine T_block ?_
 refine T_loop (fun k F H' => ∃ i : Nat, k = s.size - i ∧ i ≤ s.size ∧ F 0 = ps s ∧ F 18 = pi s.size ∧ F 19 = pi i ∧ H' = H ∧ ∀ j : Nat, j < i → inWordB (byteAt s j) = true) (s.size) ?_ ?_
 refine ⟨0, by simp, by simp, by simp, by simp, by simp, rfl, fun j hj => absurd hj (by omega)⟩
 rintro k F H' ⟨i, rfl, hi, g0, g18, g19, rfl, hall⟩
 refine T_sr fun K7 hK7 => ?_
 simp [g0, g18, g19, h0, h1, h2]
 apply hK7
 refine T_seqk fun K8 hK8 => ?_
 by_cases h3 : i < s.size
 refine T_condT (by first | rfl | simp [h0, h1, h2, h3]) ?_
 refine T_skip ?_
 try simp only [kn]
 apply hK8
 refine T_seqk fun K9 hK9 => ?_
 refine T_block ?_
 refine T_sr fun K10 hK10 => ?_
 simp [g0, g18, g19, h0, h1, h2, h3]
 apply hK10
 refine T_sr fun K11 hK11 => ?_
 simp [g0, g18, g19, h0, h1, h2, h3]
 refine callK.of (inWordIs _ (byteAt s (i : Int))) ?_
 rintro _ Hz ⟨rfl, hz⟩
 subst Hz
 simp [g0, g18, g19, h0, h1, h2, h3]
 apply hK11
 by_cases h4 : inWordB (byteAt s (i : Int)) = true
 refine T_condF (by first | rfl | simp [h0, h1, h2, h3, h4]) ?_
 refine T_skip ?_
 try simp only [kn]
 apply hK9
 refine T_rg ?_
 simp [g0, g18, g19, h0, h1, h2, h3, h4]
 refine ⟨s.size - (i + 1), by omega, i + 1, rfl, by omega, by rw [wrap_i64 (by omega) (by omega)]; rfl, fun j hj => ?_⟩
 by_cases e : j = i
 subst e; exact h4
 exact hall j (by omega)
 refine T_condT (by first | rfl | simp [h0, h1, h2, h3, h4]) ?_
 refine T_sr fun K12 hK12 => ?_
 simp [g0, g18, g19, h0, h1, h2, h3, h4]
 apply hK12
 refine T_ret ?_
 try simp only [kr]
 exact owes_one (.inr rfl) hwf rfl (by rw [show nameB s = false from by
   simp only [nameB, if_neg h0, if_neg h1, if_pos h2]
   rw [List.all_eq_false]
   exact ⟨i, by simpa using h3, by simpa using h4⟩] <;> simp) (by simp (maxDischargeDepth := 20)) (by simp) (by simp)
 refine T_condF (by first | rfl | simp [h0, h1, h2, h3]) ?_
 refine T_exit ?_
 try simp only [ke, kn, if_true, if_false, Nat.reduceEqDiff, reduceIte]
 apply hK5
 refine T_sr fun K13 hK13 => ?_
 simp [g0, g18, g19, h0, h1, h2, h3]
 apply hK13
 refine T_ret ?_
 try simp only [kr]
 exact owes_one (.inr rfl) hwf rfl (by rw [show nameB s = true from by
   simp only [nameB, if_neg h0, if_neg h1, if_pos h2]
   rw [List.all_eq_true]
   intro j hj
   exact hall j (by have := List.mem_range.1 hj; omega)] <;> simp) (by simp (maxDischargeDepth := 20)) (by simp) (by simp)
 refine T_condT (by first | rfl | simp [h0, h1, h2]) ?_
 refine T_sr fun K14 hK14 => ?_
 simp [h0, h1, h2]
 apply hK14
 refine T_ret ?_
 try simp only [kr]
 exact owes_one (.inr rfl) hwf rfl (by rw [show nameB s = false from by
   simp only [nameB, if_neg h0, if_neg h1, if_neg h2]] <;> simp) (by simp (maxDischargeDepth := 20)) (by simp) (by simp)
end
section
theorem all_of {α : Type} [Inhabited α] {xs : List α} {p : α → Bool} {i : Nat} (h : ∀ j : Nat, j < i → p (nth xs (j : Int)) = true) (hi : i = xs.length) : xs.all p = true := by
 rw [List.all_eq_true]
 intro x hx
 obtain ⟨j, hj, rfl⟩ := List.getElem_of_mem hx
 rw [← nth_get xs j hj]; exact h j (by omega)
theorem not_all_of {α : Type} [Inhabited α] {xs : List α} {p : α → Bool} {i : Nat} (h : i < xs.length) (hp : p (nth xs (i : Int)) = false) : ¬ xs.all p = true := by
 intro e
 rw [List.all_eq_true] at e
 have := e _ (List.getElem_mem h)
 rw [← nth_get xs i h, hp] at this
 cases this
attribute [local simp] abox frame0 nx2 nx3 nx2' bump_setBox setBox_setBox beq_bytes wrap_nn int_beq int_bne DVal.row DOp.row DLook.row DFlat.row DType.row DNeed.row DCell.row eq42 DImage.row DJob.row DLoop.row irow idx22 idx23 idx24 idx45 idx46 idx53 idx9 aFieldAddr aload partOf aLen aBin aBinV aUn aalloc astore splice AS.Ext.refl AS.Ext.bump AS.Ext.setBox AS.Ext.kill AS.Ext.setMap
def headL (f : DFlat) (l : DLoop) : Bool := if l.head < 0 then false else if l.stop < l.head then false else if (f.ops.length : Int) < l.stop then false else if numberB l.times 65536 = true then (true) else false
def headB (f : DFlat) (n : Int) : Bool := if f.what < 1 then false else if 3 < f.what then false else if numberB f.cells 4096 = true then (if numberB f.regs 8 = true then (if numberB f.slots 1024 = true then (if f.ops = [] then false else if f.base = (-1) then (if (nth f.ops ((f.ops.length : Int) - 1)).code = 16 then (if f.loops.all (headL f) = true then true else false) else if (nth f.ops ((f.ops.length : Int) - 1)).code = 20 then (if f.loops.all (headL f) = true then true else false) else if (nth f.ops ((f.ops.length : Int) - 1)).code = 21 then (if f.loops.all (headL f) = true then true else false) else false) else if f.what = 1 then (if f.base < 0 then false else if (IntKind.wrap .i64 (n - f.cells)) < f.base then false else if (nth f.ops ((f.ops.length : Int) - 1)).code = 16 then (if f.loops.all (headL f) = true then true else false) else if (nth f.ops ((f.ops.length : Int) - 1)).code = 20 then (if f.loops.all (headL f) = true then true else false) else if (nth f.ops ((f.ops.length : Int) - 1)).code = 21 then (if f.loops.all (headL f) = true then true else false) else false) else false) else false) else false) else false
theorem headIs (H : AS)  (c : Nat) (f : DFlat) (n : Int) (hfo : f.ops.length < 2 ^ 62) (hfl : f.loops.length < 2 ^ 62) : ACalls Tryz.prog 83 [.agg (f.row c), pi n] H fun q H' => q = pb (headB f n) ∧ H' = H := by
 refine ACalls_intro Tryz.func83 rfl (by kernel_rfl) (by simp) fun hwf hbel => ?_
 refine T_sr fun K0 hK0 => ?_
 simp
 apply hK0
 refine T_sr fun K1 hK1 => ?_
 simp
 apply hK1
 refine T_seqk fun K2 hK2 => ?_
 refine T_seqk fun K3 hK3 => ?_
 by_cases h0 : f.what < 1
 refine T_rg ?_
 simp [h0]
 apply hK3
 refine T_condT (by first | rfl | simp [h0]) ?_
 refine T_sr fun K4 hK4 => ?_
 simp [h0]
 apply hK4
 refine T_ret ?_
 try simp only [kr]
 exact owes_one (.inr rfl) hwf rfl (by rw [show headB f n = false from by simp only [headB, if_pos h0]] <;> simp [h0]) (by simp (maxDischargeDepth := 20)) (by simp) (by simp)
 by_cases h1 : 3 < f.what
 refine T_rg ?_
 simp [h0, h1]
 apply hK3
 refine T_condT (by first | rfl | simp [h0, h1]) ?_
 refine T_sr fun K5 hK5 => ?_
 simp [h0, h1]
 apply hK5
 refine T_ret ?_
 try simp only [kr]
 exact owes_one (.inr rfl) hwf rfl (by rw [show headB f n = false from by simp only [headB, if_neg h0, if_pos h1]] <;> simp [h0, h1]) (by simp (maxDischargeDepth := 20)) (by simp) (by simp)
 by_cases h2 : numberB f.cells 4096 = true
 by_cases h3 : numberB f.regs 8 = true
 by_cases h4 : numberB f.slots 1024 = true
 refine T_rg ?_
 simp [h0, h1, h2, h3, h4]
 refine callK.of (numberIs _ f.cells 4096) ?_
 rintro _ Hz ⟨rfl, hz⟩
 subst Hz
 simp [h0, h1, h2, h3, h4]
 refine callK.of (numberIs _ f.regs 8) ?_
 rintro _ Hz ⟨rfl, hz⟩
 subst Hz
 simp [h0, h1, h2, h3, h4]
 refine callK.of (numberIs _ f.slots 1024) ?_
 rintro _ Hz ⟨rfl, hz⟩
 subst Hz
 simp [h0, h1, h2, h3, h4]
 apply hK3
 by_cases h5 : f.ops = []
 refine T_condT (by first | rfl | simp [h0, h1, h2, h3, h4, h5]) ?_
 refine T_sr fun K6 hK6 => ?_
 simp [h0, h1, h2, h3, h4, h5]
 apply hK6
 refine T_ret ?_
 try simp only [kr]
 exact owes_one (.inr rfl) hwf rfl (by rw [show headB f n = false from by simp only [headB, if_neg h0, if_neg h1, if_pos h2, if_pos h3, if_pos h4, if_pos h5]] <;> simp [h0, h1, h2, h3, h4, h5]) (by simp (maxDischargeDepth := 20)) (by simp) (by simp)
 refine T_condF (by first | rfl | simp [h0, h1, h2, h3, h4, h5]) ?_
 refine T_skip ?_
 try simp only [kn]
 apply hK2
 refine T_seqk fun K7 hK7 => ?_
 refine T_seqk fun K8 hK8 => ?_
 by_cases h6 : f.base = (-1)
 refine T_rg ?_
 simp [h0, h1, h2, h3, h4, h5, h6]
 apply hK8
 refine T_condF (by first | rfl | simp [h0, h1, h2, h3, h4, h5, h6]) ?_
 refine T_skip ?_
 try simp only [kn]
 apply hK7
 refine T_seqk fun K9 hK9 => ?_
 refine T_sr fun K10 hK10 => ?_
 have hop : 0 < f.ops.length := List.length_pos_iff.2 h5
 simp [h0, h1, h2, h3, h4, h5, h6, wrap_i64 (show -9223372036854775808 ≤ (f.ops.length : Int) - 1 by omega) (show (f.ops.length : Int) - 1 < 9223372036854775808 by omega), idx45 c f.ops ((f.ops.length : Int) - 1) (by omega) (by omega)]
 apply hK10
 refine T_seqk fun K11 hK11 => ?_
 by_cases h7 : (nth f.ops ((f.ops.length : Int) - 1)).code = 16
 refine T_rg ?_
 simp [h0, h1, h2, h3, h4, h5, h6, h7]
 apply hK11
 refine T_condF (by first | rfl | simp [h0, h1, h2, h3, h4, h5, h6, h7]) ?_
 refine T_skip ?_
 try simp only [kn]
 apply hK9
 refine T_seqk fun K12 hK12 => ?_
 refine T_sr fun K13 hK13 => ?_
 simp [h0, h1, h2, h3, h4, h5, h6, h7]
 apply hK13
 refine T_block ?_
 refine T_loop (fun k F H' => ∃ i : Nat, k = f.loops.length - i ∧ i ≤ f.loops.length ∧ F 5 = pi f.ops.length ∧ F 82 = PV.sl c 3 (f.loops.map DLoop.row) ∧ F 83 = pi f.loops.length ∧ F 84 = pi i ∧ H.Ext H' ∧ ∀ y : Nat, y < i → headL f (nth f.loops (y : Int)) = true) (f.loops.length) ?_ ?_
 refine ⟨0, ?_⟩
 simp (maxDischargeDepth := 20) [h0, h1, h2, h3, h4, h5, h6, h7]
 rintro k F H' ⟨i, rfl, hi, g5, g82, g83, g84, hext, hall⟩
 have hnx := hext.next
 refine T_sr fun K14 hK14 => ?_
 simp [g5, g82, g83, g84, hext, h0, h1, h2, h3, h4, h5, h6, h7]
 apply hK14
 refine T_seqk fun K15 hK15 => ?_
 by_cases h8 : i < f.loops.length
 refine T_condT (by first | rfl | simp [h0, h1, h2, h3, h4, h5, h6, h7, h8]) ?_
 refine T_skip ?_
 try simp only [kn]
 apply hK15
 refine T_seqk fun K16 hK16 => ?_
 refine T_block ?_
 refine T_sr fun K17 hK17 => ?_
 simp [g5, g82, g83, g84, hext, h0, h1, h2, h3, h4, h5, h6, h7, h8]
 apply hK17
 refine T_seqk fun K18 hK18 => ?_
 by_cases h9 : (nth f.loops (i : Int)).head < 0
 refine T_rg ?_
 simp [g5, g82, g83, g84, hext, h0, h1, h2, h3, h4, h5, h6, h7, h8, h9]
 apply hK18
 refine T_condT (by first | rfl | simp [h0, h1, h2, h3, h4, h5, h6, h7, h8, h9]) ?_
 refine T_sr fun K19 hK19 => ?_
 simp [g5, g82, g83, g84, hext, h0, h1, h2, h3, h4, h5, h6, h7, h8, h9]
 apply hK19
 refine T_ret ?_
 try simp only [kr]
 have hnl : ¬ f.loops.all (headL f) = true := not_all_of (i := i) (by omega) (by
   simp only [headL, if_pos h9] <;> simp)
 exact owes_one (.inr rfl) hwf rfl (by rw [show headB f n = false from by simp only [headB, if_neg h0, if_neg h1, if_pos h2, if_pos h3, if_pos h4, if_neg h5, if_pos h6, if_pos h7, if_neg hnl]] <;> simp [h0, h1, h2, h3, h4, h5, h6, h7, hnl]) (by simp (maxDischargeDepth := 20) [hext, hnx]) (by simp) (by simp)
 by_cases h10 : (nth f.loops (i : Int)).stop < (nth f.loops (i : Int)).head
 refine T_rg ?_
 simp [g5, g82, g83, g84, hext, h0, h1, h2, h3, h4, h5, h6, h7, h8, h9, h10]
 apply hK18
 refine T_condT (by first | rfl | simp [h0, h1, h2, h3, h4, h5, h6, h7, h8, h9, h10]) ?_
 refine T_sr fun K20 hK20 => ?_
 simp [g5, g82, g83, g84, hext, h0, h1, h2, h3, h4, h5, h6, h7, h8, h9, h10]
 apply hK20
 refine T_ret ?_
 try simp only [kr]
 have hnl : ¬ f.loops.all (headL f) = true := not_all_of (i := i) (by omega) (by
   simp only [headL, if_neg h9, if_pos h10] <;> simp)
 exact owes_one (.inr rfl) hwf rfl (by rw [show headB f n = false from by simp only [headB, if_neg h0, if_neg h1, if_pos h2, if_pos h3, if_pos h4, if_neg h5, if_pos h6, if_pos h7, if_neg hnl]] <;> simp [h0, h1, h2, h3, h4, h5, h6, h7, hnl]) (by simp (maxDischargeDepth := 20) [hext, hnx]) (by simp) (by simp)
 by_cases h11 : (f.ops.length : Int) < (nth f.loops (i : Int)).stop
 refine T_rg ?_
 simp [g5, g82, g83, g84, hext, h0, h1, h2, h3, h4, h5, h6, h7, h8, h9, h10, h11]
 apply hK18
 refine T_condT (by first | rfl | simp [h0, h1, h2, h3, h4, h5, h6, h7, h8, h9, h10, h11]) ?_
 refine T_sr fun K21 hK21 => ?_
 simp [g5, g82, g83, g84, hext, h0, h1, h2, h3, h4, h5, h6, h7, h8, h9, h10, h11]
 apply hK21
 refine T_ret ?_
 try simp only [kr]
 have hnl : ¬ f.loops.all (headL f) = true := not_all_of (i := i) (by omega) (by
   simp only [headL, if_neg h9, if_neg h10, if_pos h11] <;> simp)
 exact owes_one (.inr rfl) hwf rfl (by rw [show headB f n = false from by simp only [headB, if_neg h0, if_neg h1, if_pos h2, if_pos h3, if_pos h4, if_neg h5, if_pos h6, if_pos h7, if_neg hnl]] <;> simp [h0, h1, h2, h3, h4, h5, h6, h7, hnl]) (by simp (maxDischargeDepth := 20) [hext, hnx]) (by simp) (by simp)
 refine T_rg ?_
 simp [g5, g82, g83, g84, hext, h0, h1, h2, h3, h4, h5, h6, h7, h8, h9, h10, h11]
 refine callK.of (numberIs _ (nth f.loops (i : Int)).times 65536) ?_
 rintro _ Hz ⟨rfl, hz⟩
 subst Hz
 simp [g5, g82, g83, g84, hext, h0, h1, h2, h3, h4, h5, h6, h7, h8, h9, h10, h11]
 apply hK18
 by_cases h12 : numberB (nth f.loops (i : Int)).times 65536 = true
 refine T_condF (by first | rfl | simp [h0, h1, h2, h3, h4, h5, h6, h7, h8, h9, h10, h11, h12]) ?_
 refine T_skip ?_
 try simp only [kn]
 apply hK16
 refine T_rg ?_
 simp [g5, g82, g83, g84, hext, h0, h1, h2, h3, h4, h5, h6, h7, h8, h9, h10, h11, h12]
 have hx : headL f (nth f.loops (i : Int)) = true := by
  simp only [headL, if_neg h9, if_neg h10, if_neg h11, if_pos h12]
 refine ⟨f.loops.length - (i + 1), by omega, i + 1, by omega, by omega, by rw [wrap_i64 (by omega) (by omega)]; rfl, by simp (maxDischargeDepth := 20) [hext, hnx], fun y hy => ?_⟩
 by_cases e : y = i
 subst e; exact hx
 exact hall y (by omega)
 refine T_condT (by first | rfl | simp [h0, h1, h2, h3, h4, h5, h6, h7, h8, h9, h10, h11, h12]) ?_
 refine T_sr fun K22 hK22 => ?_
 simp [g5, g82, g83, g84, hext, h0, h1, h2, h3, h4, h5, h6, h7, h8, h9, h10, h11, h12]
 apply hK22
 refine T_ret ?_
 try simp only [kr]
 have hnl : ¬ f.loops.all (headL f) = true := not_all_of (i := i) (by omega) (by
   simp only [headL, if_neg h9, if_neg h10, if_neg h11, if_neg h12] <;> simp)
 exact owes_one (.inr rfl) hwf rfl (by rw [show headB f n = false from by simp only [headB, if_neg h0, if_neg h1, if_pos h2, if_pos h3, if_pos h4, if_neg h5, if_pos h6, if_pos h7, if_neg hnl]] <;> simp [h0, h1, h2, h3, h4, h5, h6, h7, hnl]) (by simp (maxDischargeDepth := 20) [hext, hnx]) (by simp) (by simp)
 have hge : i = f.loops.length := by omega
 have hl8 : f.loops.all (headL f) = true := all_of hall hge
 refine T_condF (by first | rfl | simp [h0, h1, h2, h3, h4, h5, h6, h7, h8, hl8]) ?_
 refine T_exit ?_
 try simp only [ke, kn, if_true, if_false, Nat.reduceEqDiff, reduceIte]
 apply hK12
 refine T_sr fun K23 hK23 => ?_
 simp [g5, g82, g83, g84, hext, h0, h1, h2, h3, h4, h5, h6, h7, h8, hl8]
 apply hK23
 refine T_ret ?_
 try simp only [kr]
 exact owes_one (.inr rfl) hwf rfl (by rw [show headB f n = true from by simp only [headB, if_neg h0, if_neg h1, if_pos h2, if_pos h3, if_pos h4, if_neg h5, if_pos h6, if_pos h7, if_neg h8, if_pos hl8]] <;> simp [h0, h1, h2, h3, h4, h5, h6, h7, h8, hl8]) (by simp (maxDischargeDepth := 20) [hext, hnx]) (by simp) (by simp)
 by_cases h13 : (nth f.ops ((f.ops.length : Int) - 1)).code = 20
 refine T_rg ?_
 simp [h0, h1, h2, h3, h4, h5, h6, h7, h13]
 apply hK11
 refine T_condF (by first | rfl | simp [h0, h1, h2, h3, h4, h5, h6, h7, h13]) ?_
 refine T_skip ?_
 try simp only [kn]
 apply hK9
 refine T_seqk fun K24 hK24 => ?_
 refine T_sr fun K25 hK25 => ?_
 simp [h0, h1, h2, h3, h4, h5, h6, h7, h13]
 apply hK25
 refine T_block ?_
 refine T_loop (fun k F H' => ∃ i : Nat, k = f.loops.length - i ∧ i ≤ f.loops.length ∧ F 5 = pi f.ops.length ∧ F 82 = PV.sl c 3 (f.loops.map DLoop.row) ∧ F 83 = pi f.loops.length ∧ F 84 = pi i ∧ H.Ext H' ∧ ∀ y : Nat, y < i → headL f (nth f.loops (y : Int)) = true) (f.loops.length) ?_ ?_
 refine ⟨0, ?_⟩
 simp (maxDischargeDepth := 20) [h0, h1, h2, h3, h4, h5, h6, h7, h13]
 rintro k F H' ⟨i, rfl, hi, g5, g82, g83, g84, hext, hall⟩
 have hnx := hext.next
 refine T_sr fun K26 hK26 => ?_
 simp [g5, g82, g83, g84, hext, h0, h1, h2, h3, h4, h5, h6, h7, h13]
 apply hK26
 refine T_seqk fun K27 hK27 => ?_
 by_cases h14 : i < f.loops.length
 refine T_condT (by first | rfl | simp [h0, h1, h2, h3, h4, h5, h6, h7, h13, h14]) ?_
 refine T_skip ?_
 try simp only [kn]
 apply hK27
 refine T_seqk fun K28 hK28 => ?_
 refine T_block ?_
 refine T_sr fun K29 hK29 => ?_
 simp [g5, g82, g83, g84, hext, h0, h1, h2, h3, h4, h5, h6, h7, h13, h14]
 apply hK29
 refine T_seqk fun K30 hK30 => ?_
 by_cases h15 : (nth f.loops (i : Int)).head < 0
 refine T_rg ?_
 simp [g5, g82, g83, g84, hext, h0, h1, h2, h3, h4, h5, h6, h7, h13, h14, h15]
 apply hK30
 refine T_condT (by first | rfl | simp [h0, h1, h2, h3, h4, h5, h6, h7, h13, h14, h15]) ?_
 refine T_sr fun K31 hK31 => ?_
 simp [g5, g82, g83, g84, hext, h0, h1, h2, h3, h4, h5, h6, h7, h13, h14, h15]
 apply hK31
 refine T_ret ?_
 try simp only [kr]
 have hnl : ¬ f.loops.all (headL f) = true := not_all_of (i := i) (by omega) (by
   simp only [headL, if_pos h15] <;> simp)
 exact owes_one (.inr rfl) hwf rfl (by rw [show headB f n = false from by simp only [headB, if_neg h0, if_neg h1, if_pos h2, if_pos h3, if_pos h4, if_neg h5, if_pos h6, if_neg h7, if_pos h13, if_neg hnl]] <;> simp [h0, h1, h2, h3, h4, h5, h6, h7, h13, hnl]) (by simp (maxDischargeDepth := 20) [hext, hnx]) (by simp) (by simp)
 by_cases h16 : (nth f.loops (i : Int)).stop < (nth f.loops (i : Int)).head
 refine T_rg ?_
 simp [g5, g82, g83, g84, hext, h0, h1, h2, h3, h4, h5, h6, h7, h13, h14, h15, h16]
 apply hK30
 refine T_condT (by first | rfl | simp [h0, h1, h2, h3, h4, h5, h6, h7, h13, h14, h15, h16]) ?_
 refine T_sr fun K32 hK32 => ?_
 simp [g5, g82, g83, g84, hext, h0, h1, h2, h3, h4, h5, h6, h7, h13, h14, h15, h16]
 apply hK32
 refine T_ret ?_
 try simp only [kr]
 have hnl : ¬ f.loops.all (headL f) = true := not_all_of (i := i) (by omega) (by
   simp only [headL, if_neg h15, if_pos h16] <;> simp)
 exact owes_one (.inr rfl) hwf rfl (by rw [show headB f n = false from by simp only [headB, if_neg h0, if_neg h1, if_pos h2, if_pos h3, if_pos h4, if_neg h5, if_pos h6, if_neg h7, if_pos h13, if_neg hnl]] <;> simp [h0, h1, h2, h3, h4, h5, h6, h7, h13, hnl]) (by simp (maxDischargeDepth := 20) [hext, hnx]) (by simp) (by simp)
 by_cases h17 : (f.ops.length : Int) < (nth f.loops (i : Int)).stop
 refine T_rg ?_
 simp [g5, g82, g83, g84, hext, h0, h1, h2, h3, h4, h5, h6, h7, h13, h14, h15, h16, h17]
 apply hK30
 refine T_condT (by first | rfl | simp [h0, h1, h2, h3, h4, h5, h6, h7, h13, h14, h15, h16, h17]) ?_
 refine T_sr fun K33 hK33 => ?_
 simp [g5, g82, g83, g84, hext, h0, h1, h2, h3, h4, h5, h6, h7, h13, h14, h15, h16, h17]
 apply hK33
 refine T_ret ?_
 try simp only [kr]
 have hnl : ¬ f.loops.all (headL f) = true := not_all_of (i := i) (by omega) (by
   simp only [headL, if_neg h15, if_neg h16, if_pos h17] <;> simp)
 exact owes_one (.inr rfl) hwf rfl (by rw [show headB f n = false from by simp only [headB, if_neg h0, if_neg h1, if_pos h2, if_pos h3, if_pos h4, if_neg h5, if_pos h6, if_neg h7, if_pos h13, if_neg hnl]] <;> simp [h0, h1, h2, h3, h4, h5, h6, h7, h13, hnl]) (by simp (maxDischargeDepth := 20) [hext, hnx]) (by simp) (by simp)
 refine T_rg ?_
 simp [g5, g82, g83, g84, hext, h0, h1, h2, h3, h4, h5, h6, h7, h13, h14, h15, h16, h17]
 refine callK.of (numberIs _ (nth f.loops (i : Int)).times 65536) ?_
 rintro _ Hz ⟨rfl, hz⟩
 subst Hz
 simp [g5, g82, g83, g84, hext, h0, h1, h2, h3, h4, h5, h6, h7, h13, h14, h15, h16, h17]
 apply hK30
 by_cases h18 : numberB (nth f.loops (i : Int)).times 65536 = true
 refine T_condF (by first | rfl | simp [h0, h1, h2, h3, h4, h5, h6, h7, h13, h14, h15, h16, h17, h18]) ?_
 refine T_skip ?_
 try simp only [kn]
 apply hK28
 refine T_rg ?_
 simp [g5, g82, g83, g84, hext, h0, h1, h2, h3, h4, h5, h6, h7, h13, h14, h15, h16, h17, h18]
 have hx : headL f (nth f.loops (i : Int)) = true := by
  simp only [headL, if_neg h15, if_neg h16, if_neg h17, if_pos h18]
 refine ⟨f.loops.length - (i + 1), by omega, i + 1, by omega, by omega, by rw [wrap_i64 (by omega) (by omega)]; rfl, by simp (maxDischargeDepth := 20) [hext, hnx], fun y hy => ?_⟩
 by_cases e : y = i
 subst e; exact hx
 exact hall y (by omega)
 refine T_condT (by first | rfl | simp [h0, h1, h2, h3, h4, h5, h6, h7, h13, h14, h15, h16, h17, h18]) ?_
 refine T_sr fun K34 hK34 => ?_
 simp [g5, g82, g83, g84, hext, h0, h1, h2, h3, h4, h5, h6, h7, h13, h14, h15, h16, h17, h18]
 apply hK34
 refine T_ret ?_
 try simp only [kr]
 have hnl : ¬ f.loops.all (headL f) = true := not_all_of (i := i) (by omega) (by
   simp only [headL, if_neg h15, if_neg h16, if_neg h17, if_neg h18] <;> simp)
 exact owes_one (.inr rfl) hwf rfl (by rw [show headB f n = false from by simp only [headB, if_neg h0, if_neg h1, if_pos h2, if_pos h3, if_pos h4, if_neg h5, if_pos h6, if_neg h7, if_pos h13, if_neg hnl]] <;> simp [h0, h1, h2, h3, h4, h5, h6, h7, h13, hnl]) (by simp (maxDischargeDepth := 20) [hext, hnx]) (by simp) (by simp)
 have hge : i = f.loops.length := by omega
 have hl14 : f.loops.all (headL f) = true := all_of hall hge
 refine T_condF (by first | rfl | simp [h0, h1, h2, h3, h4, h5, h6, h7, h13, h14, hl14]) ?_
 refine T_exit ?_
 try simp only [ke, kn, if_true, if_false, Nat.reduceEqDiff, reduceIte]
 apply hK24
 refine T_sr fun K35 hK35 => ?_
 simp [g5, g82, g83, g84, hext, h0, h1, h2, h3, h4, h5, h6, h7, h13, h14, hl14]
 apply hK35
 refine T_ret ?_
 try simp only [kr]
 exact owes_one (.inr rfl) hwf rfl (by rw [show headB f n = true from by simp only [headB, if_neg h0, if_neg h1, if_pos h2, if_pos h3, if_pos h4, if_neg h5, if_pos h6, if_neg h7, if_pos h13, if_neg h14, if_pos hl14]] <;> simp [h0, h1, h2, h3, h4, h5, h6, h7, h13, h14, hl14]) (by simp (maxDischargeDepth := 20) [hext, hnx]) (by simp) (by simp)
 refine T_rg ?_
 simp [h0, h1, h2, h3, h4, h5, h6, h7, h13]
 apply hK11
 by_cases h19 : (nth f.ops ((f.ops.length : Int) - 1)).code = 21
 refine T_condF (by first | rfl | simp [h0, h1, h2, h3, h4, h5, h6, h7, h13, h19]) ?_
 refine T_skip ?_
 try simp only [kn]
 apply hK9
 refine T_seqk fun K36 hK36 => ?_
 refine T_sr fun K37 hK37 => ?_
 simp [h0, h1, h2, h3, h4, h5, h6, h7, h13, h19]
 apply hK37
 refine T_block ?_
 refine T_loop (fun k F H' => ∃ i : Nat, k = f.loops.length - i ∧ i ≤ f.loops.length ∧ F 5 = pi f.ops.length ∧ F 82 = PV.sl c 3 (f.loops.map DLoop.row) ∧ F 83 = pi f.loops.length ∧ F 84 = pi i ∧ H.Ext H' ∧ ∀ y : Nat, y < i → headL f (nth f.loops (y : Int)) = true) (f.loops.length) ?_ ?_
 refine ⟨0, ?_⟩
 simp (maxDischargeDepth := 20) [h0, h1, h2, h3, h4, h5, h6, h7, h13, h19]
 rintro k F H' ⟨i, rfl, hi, g5, g82, g83, g84, hext, hall⟩
 have hnx := hext.next
 refine T_sr fun K38 hK38 => ?_
 simp [g5, g82, g83, g84, hext, h0, h1, h2, h3, h4, h5, h6, h7, h13, h19]
 apply hK38
 refine T_seqk fun K39 hK39 => ?_
 by_cases h20 : i < f.loops.length
 refine T_condT (by first | rfl | simp [h0, h1, h2, h3, h4, h5, h6, h7, h13, h19, h20]) ?_
 refine T_skip ?_
 try simp only [kn]
 apply hK39
 refine T_seqk fun K40 hK40 => ?_
 refine T_block ?_
 refine T_sr fun K41 hK41 => ?_
 simp [g5, g82, g83, g84, hext, h0, h1, h2, h3, h4, h5, h6, h7, h13, h19, h20]
 apply hK41
 refine T_seqk fun K42 hK42 => ?_
 by_cases h21 : (nth f.loops (i : Int)).head < 0
 refine T_rg ?_
 simp [g5, g82, g83, g84, hext, h0, h1, h2, h3, h4, h5, h6, h7, h13, h19, h20, h21]
 apply hK42
 refine T_condT (by first | rfl | simp [h0, h1, h2, h3, h4, h5, h6, h7, h13, h19, h20, h21]) ?_
 refine T_sr fun K43 hK43 => ?_
 simp [g5, g82, g83, g84, hext, h0, h1, h2, h3, h4, h5, h6, h7, h13, h19, h20, h21]
 apply hK43
 refine T_ret ?_
 try simp only [kr]
 have hnl : ¬ f.loops.all (headL f) = true := not_all_of (i := i) (by omega) (by
   simp only [headL, if_pos h21] <;> simp)
 exact owes_one (.inr rfl) hwf rfl (by rw [show headB f n = false from by simp only [headB, if_neg h0, if_neg h1, if_pos h2, if_pos h3, if_pos h4, if_neg h5, if_pos h6, if_neg h7, if_neg h13, if_pos h19, if_neg hnl]] <;> simp [h0, h1, h2, h3, h4, h5, h6, h7, h13, h19, hnl]) (by simp (maxDischargeDepth := 20) [hext, hnx]) (by simp) (by simp)
 by_cases h22 : (nth f.loops (i : Int)).stop < (nth f.loops (i : Int)).head
 refine T_rg ?_
 simp [g5, g82, g83, g84, hext, h0, h1, h2, h3, h4, h5, h6, h7, h13, h19, h20, h21, h22]
 apply hK42
 refine T_condT (by first | rfl | simp [h0, h1, h2, h3, h4, h5, h6, h7, h13, h19, h20, h21, h22]) ?_
 refine T_sr fun K44 hK44 => ?_
 simp [g5, g82, g83, g84, hext, h0, h1, h2, h3, h4, h5, h6, h7, h13, h19, h20, h21, h22]
 apply hK44
 refine T_ret ?_
 try simp only [kr]
 have hnl : ¬ f.loops.all (headL f) = true := not_all_of (i := i) (by omega) (by
   simp only [headL, if_neg h21, if_pos h22] <;> simp)
 exact owes_one (.inr rfl) hwf rfl (by rw [show headB f n = false from by simp only [headB, if_neg h0, if_neg h1, if_pos h2, if_pos h3, if_pos h4, if_neg h5, if_pos h6, if_neg h7, if_neg h13, if_pos h19, if_neg hnl]] <;> simp [h0, h1, h2, h3, h4, h5, h6, h7, h13, h19, hnl]) (by simp (maxDischargeDepth := 20) [hext, hnx]) (by simp) (by simp)
 by_cases h23 : (f.ops.length : Int) < (nth f.loops (i : Int)).stop
 refine T_rg ?_
 simp [g5, g82, g83, g84, hext, h0, h1, h2, h3, h4, h5, h6, h7, h13, h19, h20, h21, h22, h23]
 apply hK42
 refine T_condT (by first | rfl | simp [h0, h1, h2, h3, h4, h5, h6, h7, h13, h19, h20, h21, h22, h23]) ?_
 refine T_sr fun K45 hK45 => ?_
 simp [g5, g82, g83, g84, hext, h0, h1, h2, h3, h4, h5, h6, h7, h13, h19, h20, h21, h22, h23]
 apply hK45
 refine T_ret ?_
 try simp only [kr]
 have hnl : ¬ f.loops.all (headL f) = true := not_all_of (i := i) (by omega) (by
   simp only [headL, if_neg h21, if_neg h22, if_pos h23] <;> simp)
 exact owes_one (.inr rfl) hwf rfl (by rw [show headB f n = false from by simp only [headB, if_neg h0, if_neg h1, if_pos h2, if_pos h3, if_pos h4, if_neg h5, if_pos h6, if_neg h7, if_neg h13, if_pos h19, if_neg hnl]] <;> simp [h0, h1, h2, h3, h4, h5, h6, h7, h13, h19, hnl]) (by simp (maxDischargeDepth := 20) [hext, hnx]) (by simp) (by simp)
 refine T_rg ?_
 simp [g5, g82, g83, g84, hext, h0, h1, h2, h3, h4, h5, h6, h7, h13, h19, h20, h21, h22, h23]
 refine callK.of (numberIs _ (nth f.loops (i : Int)).times 65536) ?_
 rintro _ Hz ⟨rfl, hz⟩
 subst Hz
 simp [g5, g82, g83, g84, hext, h0, h1, h2, h3, h4, h5, h6, h7, h13, h19, h20, h21, h22, h23]
 apply hK42
 by_cases h24 : numberB (nth f.loops (i : Int)).times 65536 = true
 refine T_condF (by first | rfl | simp [h0, h1, h2, h3, h4, h5, h6, h7, h13, h19, h20, h21, h22, h23, h24]) ?_
 refine T_skip ?_
 try simp only [kn]
 apply hK40
 refine T_rg ?_
 simp [g5, g82, g83, g84, hext, h0, h1, h2, h3, h4, h5, h6, h7, h13, h19, h20, h21, h22, h23, h24]
 have hx : headL f (nth f.loops (i : Int)) = true := by
  simp only [headL, if_neg h21, if_neg h22, if_neg h23, if_pos h24]
 refine ⟨f.loops.length - (i + 1), by omega, i + 1, by omega, by omega, by rw [wrap_i64 (by omega) (by omega)]; rfl, by simp (maxDischargeDepth := 20) [hext, hnx], fun y hy => ?_⟩
 by_cases e : y = i
 subst e; exact hx
 exact hall y (by omega)
 refine T_condT (by first | rfl | simp [h0, h1, h2, h3, h4, h5, h6, h7, h13, h19, h20, h21, h22, h23, h24]) ?_
 refine T_sr fun K46 hK46 => ?_
 simp [g5, g82, g83, g84, hext, h0, h1, h2, h3, h4, h5, h6, h7, h13, h19, h20, h21, h22, h23, h24]
 apply hK46
 refine T_ret ?_
 try simp only [kr]
 have hnl : ¬ f.loops.all (headL f) = true := not_all_of (i := i) (by omega) (by
   simp only [headL, if_neg h21, if_neg h22, if_neg h23, if_neg h24] <;> simp)
 exact owes_one (.inr rfl) hwf rfl (by rw [show headB f n = false from by simp only [headB, if_neg h0, if_neg h1, if_pos h2, if_pos h3, if_pos h4, if_neg h5, if_pos h6, if_neg h7, if_neg h13, if_pos h19, if_neg hnl]] <;> simp [h0, h1, h2, h3, h4, h5, h6, h7, h13, h19, hnl]) (by simp (maxDischargeDepth := 20) [hext, hnx]) (by simp) (by simp)
 have hge : i = f.loops.length := by omega
 have hl20 : f.loops.all (headL f) = true := all_of hall hge
 refine T_condF (by first | rfl | simp [h0, h1, h2, h3, h4, h5, h6, h7, h13, h19, h20, hl20]) ?_
 refine T_exit ?_
 try simp only [ke, kn, if_true, if_false, Nat.reduceEqDiff, reduceIte]
 apply hK36
 refine T_sr fun K47 hK47 => ?_
 simp [g5, g82, g83, g84, hext, h0, h1, h2, h3, h4, h5, h6, h7, h13, h19, h20, hl20]
 apply hK47
 refine T_ret ?_
 try simp only [kr]
 exact owes_one (.inr rfl) hwf rfl (by rw [show headB f n = true from by simp only [headB, if_neg h0, if_neg h1, if_pos h2, if_pos h3, if_pos h4, if_neg h5, if_pos h6, if_neg h7, if_neg h13, if_pos h19, if_neg h20, if_pos hl20]] <;> simp [h0, h1, h2, h3, h4, h5, h6, h7, h13, h19, h20, hl20]) (by simp (maxDischargeDepth := 20) [hext, hnx]) (by simp) (by simp)
 refine T_condT (by first | rfl | simp [h0, h1, h2, h3, h4, h5, h6, h7, h13, h19]) ?_
 refine T_sr fun K48 hK48 => ?_
 simp [h0, h1, h2, h3, h4, h5, h6, h7, h13, h19]
 apply hK48
 refine T_ret ?_
 try simp only [kr]
 exact owes_one (.inr rfl) hwf rfl (by rw [show headB f n = false from by simp only [headB, if_neg h0, if_neg h1, if_pos h2, if_pos h3, if_pos h4, if_neg h5, if_pos h6, if_neg h7, if_neg h13, if_neg h19]] <;> simp [h0, h1, h2, h3, h4, h5, h6, h7, h13, h19]) (by simp (maxDischargeDepth := 20)) (by simp) (by simp)
 by_cases h25 : f.what = 1
 by_cases h26 : f.base < 0
 refine T_rg ?_
 simp [h0, h1, h2, h3, h4, h5, h6, h25, h26]
 apply hK8
 refine T_condT (by first | rfl | simp [h0, h1, h2, h3, h4, h5, h6, h25, h26]) ?_
 refine T_sr fun K49 hK49 => ?_
 simp [h0, h1, h2, h3, h4, h5, h6, h25, h26]
 apply hK49
 refine T_ret ?_
 try simp only [kr]
 exact owes_one (.inr rfl) hwf rfl (by rw [show headB f n = false from by simp only [headB, if_neg h0, if_neg h1, if_pos h2, if_pos h3, if_pos h4, if_neg h5, if_neg h6, if_pos h25, if_pos h26]] <;> simp [h0, h1, h2, h3, h4, h5, h6, h25, h26]) (by simp (maxDischargeDepth := 20)) (by simp) (by simp)
 refine T_rg ?_
 simp [h0, h1, h2, h3, h4, h5, h6, h25, h26]
 apply hK8
 by_cases h27 : (IntKind.wrap .i64 (n - f.cells)) < f.base
 refine T_condT (by first | rfl | simp [h0, h1, h2, h3, h4, h5, h6, h25, h26, h27]) ?_
 refine T_sr fun K50 hK50 => ?_
 simp [h0, h1, h2, h3, h4, h5, h6, h25, h26, h27]
 apply hK50
 refine T_ret ?_
 try simp only [kr]
 exact owes_one (.inr rfl) hwf rfl (by rw [show headB f n = false from by simp only [headB, if_neg h0, if_neg h1, if_pos h2, if_pos h3, if_pos h4, if_neg h5, if_neg h6, if_pos h25, if_neg h26, if_pos h27]] <;> simp [h0, h1, h2, h3, h4, h5, h6, h25, h26, h27]) (by simp (maxDischargeDepth := 20)) (by simp) (by simp)
 refine T_condF (by first | rfl | simp [h0, h1, h2, h3, h4, h5, h6, h25, h26, h27]) ?_
 refine T_skip ?_
 try simp only [kn]
 apply hK7
 refine T_seqk fun K51 hK51 => ?_
 refine T_sr fun K52 hK52 => ?_
 have hop : 0 < f.ops.length := List.length_pos_iff.2 h5
 simp [h0, h1, h2, h3, h4, h5, h6, h25, h26, h27, wrap_i64 (show -9223372036854775808 ≤ (f.ops.length : Int) - 1 by omega) (show (f.ops.length : Int) - 1 < 9223372036854775808 by omega), idx45 c f.ops ((f.ops.length : Int) - 1) (by omega) (by omega)]
 apply hK52
 refine T_seqk fun K53 hK53 => ?_
 by_cases h28 : (nth f.ops ((f.ops.length : Int) - 1)).code = 16
 refine T_rg ?_
 simp [h0, h1, h2, h3, h4, h5, h6, h25, h26, h27, h28]
 apply hK53
 refine T_condF (by first | rfl | simp [h0, h1, h2, h3, h4, h5, h6, h25, h26, h27, h28]) ?_
 refine T_skip ?_
 try simp only [kn]
 apply hK51
 refine T_seqk fun K54 hK54 => ?_
 refine T_sr fun K55 hK55 => ?_
 simp [h0, h1, h2, h3, h4, h5, h6, h25, h26, h27, h28]
 apply hK55
 refine T_block ?_
 refine T_loop (fun k F H' => ∃ i : Nat, k = f.loops.length - i ∧ i ≤ f.loops.length ∧ F 5 = pi f.ops.length ∧ F 82 = PV.sl c 3 (f.loops.map DLoop.row) ∧ F 83 = pi f.loops.length ∧ F 84 = pi i ∧ H.Ext H' ∧ ∀ y : Nat, y < i → headL f (nth f.loops (y : Int)) = true) (f.loops.length) ?_ ?_
 refine ⟨0, ?_⟩
 simp (maxDischargeDepth := 20) [h0, h1, h2, h3, h4, h5, h6, h25, h26, h27, h28]
 rintro k F H' ⟨i, rfl, hi, g5, g82, g83, g84, hext, hall⟩
 have hnx := hext.next
 refine T_sr fun K56 hK56 => ?_
 simp [g5, g82, g83, g84, hext, h0, h1, h2, h3, h4, h5, h6, h25, h26, h27, h28]
 apply hK56
 refine T_seqk fun K57 hK57 => ?_
 by_cases h29 : i < f.loops.length
 refine T_condT (by first | rfl | simp [h0, h1, h2, h3, h4, h5, h6, h25, h26, h27, h28, h29]) ?_
 refine T_skip ?_
 try simp only [kn]
 apply hK57
 refine T_seqk fun K58 hK58 => ?_
 refine T_block ?_
 refine T_sr fun K59 hK59 => ?_
 simp [g5, g82, g83, g84, hext, h0, h1, h2, h3, h4, h5, h6, h25, h26, h27, h28, h29]
 apply hK59
 refine T_seqk fun K60 hK60 => ?_
 by_cases h30 : (nth f.loops (i : Int)).head < 0
 refine T_rg ?_
 simp [g5, g82, g83, g84, hext, h0, h1, h2, h3, h4, h5, h6, h25, h26, h27, h28, h29, h30]
 apply hK60
 refine T_condT (by first | rfl | simp [h0, h1, h2, h3, h4, h5, h6, h25, h26, h27, h28, h29, h30]) ?_
 refine T_sr fun K61 hK61 => ?_
 simp [g5, g82, g83, g84, hext, h0, h1, h2, h3, h4, h5, h6, h25, h26, h27, h28, h29, h30]
 apply hK61
 refine T_ret ?_
 try simp only [kr]
 have hnl : ¬ f.loops.all (headL f) = true := not_all_of (i := i) (by omega) (by
   simp only [headL, if_pos h30] <;> simp)
 exact owes_one (.inr rfl) hwf rfl (by rw [show headB f n = false from by simp only [headB, if_neg h0, if_neg h1, if_pos h2, if_pos h3, if_pos h4, if_neg h5, if_neg h6, if_pos h25, if_neg h26, if_neg h27, if_pos h28, if_neg hnl]] <;> simp [h0, h1, h2, h3, h4, h5, h6, h25, h26, h27, h28, hnl]) (by simp (maxDischargeDepth := 20) [hext, hnx]) (by simp) (by simp)
 by_cases h31 : (nth f.loops (i : Int)).stop < (nth f.loops (i : Int)).head
 refine T_rg ?_
 simp [g5, g82, g83, g84, hext, h0, h1, h2, h3, h4, h5, h6, h25, h26, h27, h28, h29, h30, h31]
 apply hK60
 refine T_condT (by first | rfl | simp [h0, h1, h2, h3, h4, h5, h6, h25, h26, h27, h28, h29, h30, h31]) ?_
 refine T_sr fun K62 hK62 => ?_
 simp [g5, g82, g83, g84, hext, h0, h1, h2, h3, h4, h5, h6, h25, h26, h27, h28, h29, h30, h31]
 apply hK62
 refine T_ret ?_
 try simp only [kr]
 have hnl : ¬ f.loops.all (headL f) = true := not_all_of (i := i) (by omega) (by
   simp only [headL, if_neg h30, if_pos h31] <;> simp)
 exact owes_one (.inr rfl) hwf rfl (by rw [show headB f n = false from by simp only [headB, if_neg h0, if_neg h1, if_pos h2, if_pos h3, if_pos h4, if_neg h5, if_neg h6, if_pos h25, if_neg h26, if_neg h27, if_pos h28, if_neg hnl]] <;> simp [h0, h1, h2, h3, h4, h5, h6, h25, h26, h27, h28, hnl]) (by simp (maxDischargeDepth := 20) [hext, hnx]) (by simp) (by simp)
 by_cases h32 : (f.ops.length : Int) < (nth f.loops (i : Int)).stop
 refine T_rg ?_
 simp [g5, g82, g83, g84, hext, h0, h1, h2, h3, h4, h5, h6, h25, h26, h27, h28, h29, h30, h31, h32]
 apply hK60
 refine T_condT (by first | rfl | simp [h0, h1, h2, h3, h4, h5, h6, h25, h26, h27, h28, h29, h30, h31, h32]) ?_
 refine T_sr fun K63 hK63 => ?_
 simp [g5, g82, g83, g84, hext, h0, h1, h2, h3, h4, h5, h6, h25, h26, h27, h28, h29, h30, h31, h32]
 apply hK63
 refine T_ret ?_
 try simp only [kr]
 have hnl : ¬ f.loops.all (headL f) = true := not_all_of (i := i) (by omega) (by
   simp only [headL, if_neg h30, if_neg h31, if_pos h32] <;> simp)
 exact owes_one (.inr rfl) hwf rfl (by rw [show headB f n = false from by simp only [headB, if_neg h0, if_neg h1, if_pos h2, if_pos h3, if_pos h4, if_neg h5, if_neg h6, if_pos h25, if_neg h26, if_neg h27, if_pos h28, if_neg hnl]] <;> simp [h0, h1, h2, h3, h4, h5, h6, h25, h26, h27, h28, hnl]) (by simp (maxDischargeDepth := 20) [hext, hnx]) (by simp) (by simp)
 refine T_rg ?_
 simp [g5, g82, g83, g84, hext, h0, h1, h2, h3, h4, h5, h6, h25, h26, h27, h28, h29, h30, h31, h32]
 refine callK.of (numberIs _ (nth f.loops (i : Int)).times 65536) ?_
 rintro _ Hz ⟨rfl, hz⟩
 subst Hz
 simp [g5, g82, g83, g84, hext, h0, h1, h2, h3, h4, h5, h6, h25, h26, h27, h28, h29, h30, h31, h32]
 apply hK60
 by_cases h33 : numberB (nth f.loops (i : Int)).times 65536 = true
 refine T_condF (by first | rfl | simp [h0, h1, h2, h3, h4, h5, h6, h25, h26, h27, h28, h29, h30, h31, h32, h33]) ?_
 refine T_skip ?_
 try simp only [kn]
 apply hK58
 refine T_rg ?_
 simp [g5, g82, g83, g84, hext, h0, h1, h2, h3, h4, h5, h6, h25, h26, h27, h28, h29, h30, h31, h32, h33]
 have hx : headL f (nth f.loops (i : Int)) = true := by
  simp only [headL, if_neg h30, if_neg h31, if_neg h32, if_pos h33]
 refine ⟨f.loops.length - (i + 1), by omega, i + 1, by omega, by omega, by rw [wrap_i64 (by omega) (by omega)]; rfl, by simp (maxDischargeDepth := 20) [hext, hnx], fun y hy => ?_⟩
 by_cases e : y = i
 subst e; exact hx
 exact hall y (by omega)
 refine T_condT (by first | rfl | simp [h0, h1, h2, h3, h4, h5, h6, h25, h26, h27, h28, h29, h30, h31, h32, h33]) ?_
 refine T_sr fun K64 hK64 => ?_
 simp [g5, g82, g83, g84, hext, h0, h1, h2, h3, h4, h5, h6, h25, h26, h27, h28, h29, h30, h31, h32, h33]
 apply hK64
 refine T_ret ?_
 try simp only [kr]
 have hnl : ¬ f.loops.all (headL f) = true := not_all_of (i := i) (by omega) (by
   simp only [headL, if_neg h30, if_neg h31, if_neg h32, if_neg h33] <;> simp)
 exact owes_one (.inr rfl) hwf rfl (by rw [show headB f n = false from by simp only [headB, if_neg h0, if_neg h1, if_pos h2, if_pos h3, if_pos h4, if_neg h5, if_neg h6, if_pos h25, if_neg h26, if_neg h27, if_pos h28, if_neg hnl]] <;> simp [h0, h1, h2, h3, h4, h5, h6, h25, h26, h27, h28, hnl]) (by simp (maxDischargeDepth := 20) [hext, hnx]) (by simp) (by simp)
 have hge : i = f.loops.length := by omega
 have hl29 : f.loops.all (headL f) = true := all_of hall hge
 refine T_condF (by first | rfl | simp [h0, h1, h2, h3, h4, h5, h6, h25, h26, h27, h28, h29, hl29]) ?_
 refine T_exit ?_
 try simp only [ke, kn, if_true, if_false, Nat.reduceEqDiff, reduceIte]
 apply hK54
 refine T_sr fun K65 hK65 => ?_
 simp [g5, g82, g83, g84, hext, h0, h1, h2, h3, h4, h5, h6, h25, h26, h27, h28, h29, hl29]
 apply hK65
 refine T_ret ?_
 try simp only [kr]
 exact owes_one (.inr rfl) hwf rfl (by rw [show headB f n = true from by simp only [headB, if_neg h0, if_neg h1, if_pos h2, if_pos h3, if_pos h4, if_neg h5, if_neg h6, if_pos h25, if_neg h26, if_neg h27, if_pos h28, if_neg h29, if_pos hl29]] <;> simp [h0, h1, h2, h3, h4, h5, h6, h25, h26, h27, h28, h29, hl29]) (by simp (maxDischargeDepth := 20) [hext, hnx]) (by simp) (by simp)
 by_cases h34 : (nth f.ops ((f.ops.length : Int) - 1)).code = 20
 refine T_rg ?_
 simp [h0, h1, h2, h3, h4, h5, h6, h25, h26, h27, h28, h34]
 apply hK53
 refine T_condF (by first | rfl | simp [h0, h1, h2, h3, h4, h5, h6, h25, h26, h27, h28, h34]) ?_
 refine T_skip ?_
 try simp only [kn]
 apply hK51
 refine T_seqk fun K66 hK66 => ?_
 refine T_sr fun K67 hK67 => ?_
 simp [h0, h1, h2, h3, h4, h5, h6, h25, h26, h27, h28, h34]
 apply hK67
 refine T_block ?_
 refine T_loop (fun k F H' => ∃ i : Nat, k = f.loops.length - i ∧ i ≤ f.loops.length ∧ F 5 = pi f.ops.length ∧ F 82 = PV.sl c 3 (f.loops.map DLoop.row) ∧ F 83 = pi f.loops.length ∧ F 84 = pi i ∧ H.Ext H' ∧ ∀ y : Nat, y < i → headL f (nth f.loops (y : Int)) = true) (f.loops.length) ?_ ?_
 refine ⟨0, ?_⟩
 simp (maxDischargeDepth := 20) [h0, h1, h2, h3, h4, h5, h6, h25, h26, h27, h28, h34]
 rintro k F H' ⟨i, rfl, hi, g5, g82, g83, g84, hext, hall⟩
 have hnx := hext.next
 refine T_sr fun K68 hK68 => ?_
 simp [g5, g82, g83, g84, hext, h0, h1, h2, h3, h4, h5, h6, h25, h26, h27, h28, h34]
 apply hK68
 refine T_seqk fun K69 hK69 => ?_
 by_cases h35 : i < f.loops.length
 refine T_condT (by first | rfl | simp [h0, h1, h2, h3, h4, h5, h6, h25, h26, h27, h28, h34, h35]) ?_
 refine T_skip ?_
 try simp only [kn]
 apply hK69
 refine T_seqk fun K70 hK70 => ?_
 refine T_block ?_
 refine T_sr fun K71 hK71 => ?_
 simp [g5, g82, g83, g84, hext, h0, h1, h2, h3, h4, h5, h6, h25, h26, h27, h28, h34, h35]
 apply hK71
 refine T_seqk fun K72 hK72 => ?_
 by_cases h36 : (nth f.loops (i : Int)).head < 0
 refine T_rg ?_
 simp [g5, g82, g83, g84, hext, h0, h1, h2, h3, h4, h5, h6, h25, h26, h27, h28, h34, h35, h36]
 apply hK72
 refine T_condT (by first | rfl | simp [h0, h1, h2, h3, h4, h5, h6, h25, h26, h27, h28, h34, h35, h36]) ?_
 refine T_sr fun K73 hK73 => ?_
 simp [g5, g82, g83, g84, hext, h0, h1, h2, h3, h4, h5, h6, h25, h26, h27, h28, h34, h35, h36]
 apply hK73
 refine T_ret ?_
 try simp only [kr]
 have hnl : ¬ f.loops.all (headL f) = true := not_all_of (i := i) (by omega) (by
   simp only [headL, if_pos h36] <;> simp)
 exact owes_one (.inr rfl) hwf rfl (by rw [show headB f n = false from by simp only [headB, if_neg h0, if_neg h1, if_pos h2, if_pos h3, if_pos h4, if_neg h5, if_neg h6, if_pos h25, if_neg h26, if_neg h27, if_neg h28, if_pos h34, if_neg hnl]] <;> simp [h0, h1, h2, h3, h4, h5, h6, h25, h26, h27, h28, h34, hnl]) (by simp (maxDischargeDepth := 20) [hext, hnx]) (by simp) (by simp)
 by_cases h37 : (nth f.loops (i : Int)).stop < (nth f.loops (i : Int)).head
 refine T_rg ?_
 simp [g5, g82, g83, g84, hext, h0, h1, h2, h3, h4, h5, h6, h25, h26, h27, h28, h34, h35, h36, h37]
 apply hK72
 refine T_condT (by first | rfl | simp [h0, h1, h2, h3, h4, h5, h6, h25, h26, h27, h28, h34, h35, h36, h37]) ?_
 refine T_sr fun K74 hK74 => ?_
 simp [g5, g82, g83, g84, hext, h0, h1, h2, h3, h4, h5, h6, h25, h26, h27, h28, h34, h35, h36, h37]
 apply hK74
 refine T_ret ?_
 try simp only [kr]
 have hnl : ¬ f.loops.all (headL f) = true := not_all_of (i := i) (by omega) (by
   simp only [headL, if_neg h36, if_pos h37] <;> simp)
 exact owes_one (.inr rfl) hwf rfl (by rw [show headB f n = false from by simp only [headB, if_neg h0, if_neg h1, if_pos h2, if_pos h3, if_pos h4, if_neg h5, if_neg h6, if_pos h25, if_neg h26, if_neg h27, if_neg h28, if_pos h34, if_neg hnl]] <;> simp [h0, h1, h2, h3, h4, h5, h6, h25, h26, h27, h28, h34, hnl]) (by simp (maxDischargeDepth := 20) [hext, hnx]) (by simp) (by simp)
 by_cases h38 : (f.ops.length : Int) < (nth f.loops (i : Int)).stop
 refine T_rg ?_
 simp [g5, g82, g83, g84, hext, h0, h1, h2, h3, h4, h5, h6, h25, h26, h27, h28, h34, h35, h36, h37, h38]
 apply hK72
 refine T_condT (by first | rfl | simp [h0, h1, h2, h3, h4, h5, h6, h25, h26, h27, h28, h34, h35, h36, h37, h38]) ?_
 refine T_sr fun K75 hK75 => ?_
 simp [g5, g82, g83, g84, hext, h0, h1, h2, h3, h4, h5, h6, h25, h26, h27, h28, h34, h35, h36, h37, h38]
 apply hK75
 refine T_ret ?_
 try simp only [kr]
 have hnl : ¬ f.loops.all (headL f) = true := not_all_of (i := i) (by omega) (by
   simp only [headL, if_neg h36, if_neg h37, if_pos h38] <;> simp)
 exact owes_one (.inr rfl) hwf rfl (by rw [show headB f n = false from by simp only [headB, if_neg h0, if_neg h1, if_pos h2, if_pos h3, if_pos h4, if_neg h5, if_neg h6, if_pos h25, if_neg h26, if_neg h27, if_neg h28, if_pos h34, if_neg hnl]] <;> simp [h0, h1, h2, h3, h4, h5, h6, h25, h26, h27, h28, h34, hnl]) (by simp (maxDischargeDepth := 20) [hext, hnx]) (by simp) (by simp)
 refine T_rg ?_
 simp [g5, g82, g83, g84, hext, h0, h1, h2, h3, h4, h5, h6, h25, h26, h27, h28, h34, h35, h36, h37, h38]
 refine callK.of (numberIs _ (nth f.loops (i : Int)).times 65536) ?_
 rintro _ Hz ⟨rfl, hz⟩
 subst Hz
 simp [g5, g82, g83, g84, hext, h0, h1, h2, h3, h4, h5, h6, h25, h26, h27, h28, h34, h35, h36, h37, h38]
 apply hK72
 by_cases h39 : numberB (nth f.loops (i : Int)).times 65536 = true
 refine T_condF (by first | rfl | simp [h0, h1, h2, h3, h4, h5, h6, h25, h26, h27, h28, h34, h35, h36, h37, h38, h39]) ?_
 refine T_skip ?_
 try simp only [kn]
 apply hK70
 refine T_rg ?_
 simp [g5, g82, g83, g84, hext, h0, h1, h2, h3, h4, h5, h6, h25, h26, h27, h28, h34, h35, h36, h37, h38, h39]
 have hx : headL f (nth f.loops (i : Int)) = true := by
  simp only [headL, if_neg h36, if_neg h37, if_neg h38, if_pos h39]
 refine ⟨f.loops.length - (i + 1), by omega, i + 1, by omega, by omega, by rw [wrap_i64 (by omega) (by omega)]; rfl, by simp (maxDischargeDepth := 20) [hext, hnx], fun y hy => ?_⟩
 by_cases e : y = i
 subst e; exact hx
 exact hall y (by omega)
 refine T_condT (by first | rfl | simp [h0, h1, h2, h3, h4, h5, h6, h25, h26, h27, h28, h34, h35, h36, h37, h38, h39]) ?_
 refine T_sr fun K76 hK76 => ?_
 simp [g5, g82, g83, g84, hext, h0, h1, h2, h3, h4, h5, h6, h25, h26, h27, h28, h34, h35, h36, h37, h38, h39]
 apply hK76
 refine T_ret ?_
 try simp only [kr]
 have hnl : ¬ f.loops.all (headL f) = true := not_all_of (i := i) (by omega) (by
   simp only [headL, if_neg h36, if_neg h37, if_neg h38, if_neg h39] <;> simp)
 exact owes_one (.inr rfl) hwf rfl (by rw [show headB f n = false from by simp only [headB, if_neg h0, if_neg h1, if_pos h2, if_pos h3, if_pos h4, if_neg h5, if_neg h6, if_pos h25, if_neg h26, if_neg h27, if_neg h28, if_pos h34, if_neg hnl]] <;> simp [h0, h1, h2, h3, h4, h5, h6, h25, h26, h27, h28, h34, hnl]) (by simp (maxDischargeDepth := 20) [hext, hnx]) (by simp) (by simp)
 have hge : i = f.loops.length := by omega
 have hl35 : f.loops.all (headL f) = true := all_of hall hge
 refine T_condF (by first | rfl | simp [h0, h1, h2, h3, h4, h5, h6, h25, h26, h27, h28, h34, h35, hl35]) ?_
 refine T_exit ?_
 try simp only [ke, kn, if_true, if_false, Nat.reduceEqDiff, reduceIte]
 apply hK66
 refine T_sr fun K77 hK77 => ?_
 simp [g5, g82, g83, g84, hext, h0, h1, h2, h3, h4, h5, h6, h25, h26, h27, h28, h34, h35, hl35]
 apply hK77
 refine T_ret ?_
 try simp only [kr]
 exact owes_one (.inr rfl) hwf rfl (by rw [show headB f n = true from by simp only [headB, if_neg h0, if_neg h1, if_pos h2, if_pos h3, if_pos h4, if_neg h5, if_neg h6, if_pos h25, if_neg h26, if_neg h27, if_neg h28, if_pos h34, if_neg h35, if_pos hl35]] <;> simp [h0, h1, h2, h3, h4, h5, h6, h25, h26, h27, h28, h34, h35, hl35]) (by simp (maxDischargeDepth := 20) [hext, hnx]) (by simp) (by simp)
 refine T_rg ?_
 simp [h0, h1, h2, h3, h4, h5, h6, h25, h26, h27, h28, h34]
 apply hK53
 by_cases h40 : (nth f.ops ((f.ops.length : Int) - 1)).code = 21
 refine T_condF (by first | rfl | simp [h0, h1, h2, h3, h4, h5, h6, h25, h26, h27, h28, h34, h40]) ?_
 refine T_skip ?_
 try simp only [kn]
 apply hK51
 refine T_seqk fun K78 hK78 => ?_
 refine T_sr fun K79 hK79 => ?_
 simp [h0, h1, h2, h3, h4, h5, h6, h25, h26, h27, h28, h34, h40]
 apply hK79
 refine T_block ?_
 refine T_loop (fun k F H' => ∃ i : Nat, k = f.loops.length - i ∧ i ≤ f.loops.length ∧ F 5 = pi f.ops.length ∧ F 82 = PV.sl c 3 (f.loops.map DLoop.row) ∧ F 83 = pi f.loops.length ∧ F 84 = pi i ∧ H.Ext H' ∧ ∀ y : Nat, y < i → headL f (nth f.loops (y : Int)) = true) (f.loops.length) ?_ ?_
 refine ⟨0, ?_⟩
 simp (maxDischargeDepth := 20) [h0, h1, h2, h3, h4, h5, h6, h25, h26, h27, h28, h34, h40]
 rintro k F H' ⟨i, rfl, hi, g5, g82, g83, g84, hext, hall⟩
 have hnx := hext.next
 refine T_sr fun K80 hK80 => ?_
 simp [g5, g82, g83, g84, hext, h0, h1, h2, h3, h4, h5, h6, h25, h26, h27, h28, h34, h40]
 apply hK80
 refine T_seqk fun K81 hK81 => ?_
 by_cases h41 : i < f.loops.length
 refine T_condT (by first | rfl | simp [h0, h1, h2, h3, h4, h5, h6, h25, h26, h27, h28, h34, h40, h41]) ?_
 refine T_skip ?_
 try simp only [kn]
 apply hK81
 refine T_seqk fun K82 hK82 => ?_
 refine T_block ?_
 refine T_sr fun K83 hK83 => ?_
 simp [g5, g82, g83, g84, hext, h0, h1, h2, h3, h4, h5, h6, h25, h26, h27, h28, h34, h40, h41]
 apply hK83
 refine T_seqk fun K84 hK84 => ?_
 by_cases h42 : (nth f.loops (i : Int)).head < 0
 refine T_rg ?_
 simp [g5, g82, g83, g84, hext, h0, h1, h2, h3, h4, h5, h6, h25, h26, h27, h28, h34, h40, h41, h42]
 apply hK84
 refine T_condT (by first | rfl | simp [h0, h1, h2, h3, h4, h5, h6, h25, h26, h27, h28, h34, h40, h41, h42]) ?_
 refine T_sr fun K85 hK85 => ?_
 simp [g5, g82, g83, g84, hext, h0, h1, h2, h3, h4, h5, h6, h25, h26, h27, h28, h34, h40, h41, h42]
 apply hK85
 refine T_ret ?_
 try simp only [kr]
 have hnl : ¬ f.loops.all (headL f) = true := not_all_of (i := i) (by omega) (by
   simp only [headL, if_pos h42] <;> simp)
 exact owes_one (.inr rfl) hwf rfl (by rw [show headB f n = false from by simp only [headB, if_neg h0, if_neg h1, if_pos h2, if_pos h3, if_pos h4, if_neg h5, if_neg h6, if_pos h25, if_neg h26, if_neg h27, if_neg h28, if_neg h34, if_pos h40, if_neg hnl]] <;> simp [h0, h1, h2, h3, h4, h5, h6, h25, h26, h27, h28, h34, h40, hnl]) (by simp (maxDischargeDepth := 20) [hext, hnx]) (by simp) (by simp)
 by_cases h43 : (nth f.loops (i : Int)).stop < (nth f.loops (i : Int)).head
 refine T_rg ?_
 simp [g5, g82, g83, g84, hext, h0, h1, h2, h3, h4, h5, h6, h25, h26, h27, h28, h34, h40, h41, h42, h43]
 apply hK84
 refine T_condT (by first | rfl | simp [h0, h1, h2, h3, h4, h5, h6, h25, h26, h27, h28, h34, h40, h41, h42, h43]) ?_
 refine T_sr fun K86 hK86 => ?_
 simp [g5, g82, g83, g84, hext, h0, h1, h2, h3, h4, h5, h6, h25, h26, h27, h28, h34, h40, h41, h42, h43]
 apply hK86
 refine T_ret ?_
 try simp only [kr]
 have hnl : ¬ f.loops.all (headL f) = true := not_all_of (i := i) (by omega) (by
   simp only [headL, if_neg h42, if_pos h43] <;> simp)
 exact owes_one (.inr rfl) hwf rfl (by rw [show headB f n = false from by simp only [headB, if_neg h0, if_neg h1, if_pos h2, if_pos h3, if_pos h4, if_neg h5, if_neg h6, if_pos h25, if_neg h26, if_neg h27, if_neg h28, if_neg h34, if_pos h40, if_neg hnl]] <;> simp [h0, h1, h2, h3, h4, h5, h6, h25, h26, h27, h28, h34, h40, hnl]) (by simp (maxDischargeDepth := 20) [hext, hnx]) (by simp) (by simp)
 by_cases h44 : (f.ops.length : Int) < (nth f.loops (i : Int)).stop
 refine T_rg ?_
 simp [g5, g82, g83, g84, hext, h0, h1, h2, h3, h4, h5, h6, h25, h26, h27, h28, h34, h40, h41, h42, h43, h44]
 apply hK84
 refine T_condT (by first | rfl | simp [h0, h1, h2, h3, h4, h5, h6, h25, h26, h27, h28, h34, h40, h41, h42, h43, h44]) ?_
 refine T_sr fun K87 hK87 => ?_
 simp [g5, g82, g83, g84, hext, h0, h1, h2, h3, h4, h5, h6, h25, h26, h27, h28, h34, h40, h41, h42, h43, h44]
 apply hK87
 refine T_ret ?_
 try simp only [kr]
 have hnl : ¬ f.loops.all (headL f) = true := not_all_of (i := i) (by omega) (by
   simp only [headL, if_neg h42, if_neg h43, if_pos h44] <;> simp)
 exact owes_one (.inr rfl) hwf rfl (by rw [show headB f n = false from by simp only [headB, if_neg h0, if_neg h1, if_pos h2, if_pos h3, if_pos h4, if_neg h5, if_neg h6, if_pos h25, if_neg h26, if_neg h27, if_neg h28, if_neg h34, if_pos h40, if_neg hnl]] <;> simp [h0, h1, h2, h3, h4, h5, h6, h25, h26, h27, h28, h34, h40, hnl]) (by simp (maxDischargeDepth := 20) [hext, hnx]) (by simp) (by simp)
 refine T_rg ?_
 simp [g5, g82, g83, g84, hext, h0, h1, h2, h3, h4, h5, h6, h25, h26, h27, h28, h34, h40, h41, h42, h43, h44]
 refine callK.of (numberIs _ (nth f.loops (i : Int)).times 65536) ?_
 rintro _ Hz ⟨rfl, hz⟩
 subst Hz
 simp [g5, g82, g83, g84, hext, h0, h1, h2, h3, h4, h5, h6, h25, h26, h27, h28, h34, h40, h41, h42, h43, h44]
 apply hK84
 by_cases h45 : numberB (nth f.loops (i : Int)).times 65536 = true
 refine T_condF (by first | rfl | simp [h0, h1, h2, h3, h4, h5, h6, h25, h26, h27, h28, h34, h40, h41, h42, h43, h44, h45]) ?_
 refine T_skip ?_
 try simp only [kn]
 apply hK82
 refine T_rg ?_
 simp [g5, g82, g83, g84, hext, h0, h1, h2, h3, h4, h5, h6, h25, h26, h27, h28, h34, h40, h41, h42, h43, h44, h45]
 have hx : headL f (nth f.loops (i : Int)) = true := by
  simp only [headL, if_neg h42, if_neg h43, if_neg h44, if_pos h45]
 refine ⟨f.loops.length - (i + 1), by omega, i + 1, by omega, by omega, by rw [wrap_i64 (by omega) (by omega)]; rfl, by simp (maxDischargeDepth := 20) [hext, hnx], fun y hy => ?_⟩
 by_cases e : y = i
 subst e; exact hx
 exact hall y (by omega)
 refine T_condT (by first | rfl | simp [h0, h1, h2, h3, h4, h5, h6, h25, h26, h27, h28, h34, h40, h41, h42, h43, h44, h45]) ?_
 refine T_sr fun K88 hK88 => ?_
 simp [g5, g82, g83, g84, hext, h0, h1, h2, h3, h4, h5, h6, h25, h26, h27, h28, h34, h40, h41, h42, h43, h44, h45]
 apply hK88
 refine T_ret ?_
 try simp only [kr]
 have hnl : ¬ f.loops.all (headL f) = true := not_all_of (i := i) (by omega) (by
   simp only [headL, if_neg h42, if_neg h43, if_neg h44, if_neg h45] <;> simp)
 exact owes_one (.inr rfl) hwf rfl (by rw [show headB f n = false from by simp only [headB, if_neg h0, if_neg h1, if_pos h2, if_pos h3, if_pos h4, if_neg h5, if_neg h6, if_pos h25, if_neg h26, if_neg h27, if_neg h28, if_neg h34, if_pos h40, if_neg hnl]] <;> simp [h0, h1, h2, h3, h4, h5, h6, h25, h26, h27, h28, h34, h40, hnl]) (by simp (maxDischargeDepth := 20) [hext, hnx]) (by simp) (by simp)
 have hge : i = f.loops.length := by omega
 have hl41 : f.loops.all (headL f) = true := all_of hall hge
 refine T_condF (by first | rfl | simp [h0, h1, h2, h3, h4, h5, h6, h25, h26, h27, h28, h34, h40, h41, hl41]) ?_
 refine T_exit ?_
 try simp only [ke, kn, if_true, if_false, Nat.reduceEqDiff, reduceIte]
 apply hK78
 refine T_sr fun K89 hK89 => ?_
 simp [g5, g82, g83, g84, hext, h0, h1, h2, h3, h4, h5, h6, h25, h26, h27, h28, h34, h40, h41, hl41]
 apply hK89
 refine T_ret ?_
 try simp only [kr]
 exact owes_one (.inr rfl) hwf rfl (by rw [show headB f n = true from by simp only [headB, if_neg h0, if_neg h1, if_pos h2, if_pos h3, if_pos h4, if_neg h5, if_neg h6, if_pos h25, if_neg h26, if_neg h27, if_neg h28, if_neg h34, if_pos h40, if_neg h41, if_pos hl41]] <;> simp [h0, h1, h2, h3, h4, h5, h6, h25, h26, h27, h28, h34, h40, h41, hl41]) (by simp (maxDischargeDepth := 20) [hext, hnx]) (by simp) (by simp)
 refine T_condT (by first | rfl | simp [h0, h1, h2, h3, h4, h5, h6, h25, h26, h27, h28, h34, h40]) ?_
 refine T_sr fun K90 hK90 => ?_
 simp [h0, h1, h2, h3, h4, h5, h6, h25, h26, h27, h28, h34, h40]
 apply hK90
 refine T_ret ?_
 try simp only [kr]
 exact owes_one (.inr rfl) hwf rfl (by rw [show headB f n = false from by simp only [headB, if_neg h0, if_neg h1, if_pos h2, if_pos h3, if_pos h4, if_neg h5, if_neg h6, if_pos h25, if_neg h26, if_neg h27, if_neg h28, if_neg h34, if_neg h40]] <;> simp [h0, h1, h2, h3, h4, h5, h6, h25, h26, h27, h28, h34, h40]) (by simp (maxDischargeDepth := 20)) (by simp) (by simp)
 refine T_rg ?_
 simp [h0, h1, h2, h3, h4, h5, h6, h25]
 apply hK8
 refine T_condT (by first | rfl | simp [h0, h1, h2, h3, h4, h5, h6, h25]) ?_
 refine T_sr fun K91 hK91 => ?_
 simp [h0, h1, h2, h3, h4, h5, h6, h25]
 apply hK91
 refine T_ret ?_
 try simp only [kr]
 exact owes_one (.inr rfl) hwf rfl (by rw [show headB f n = false from by simp only [headB, if_neg h0, if_neg h1, if_pos h2, if_pos h3, if_pos h4, if_neg h5, if_neg h6, if_neg h25]] <;> simp [h0, h1, h2, h3, h4, h5, h6, h25]) (by simp (maxDischargeDepth := 20)) (by simp) (by simp)
 refine T_rg ?_
 simp [h0, h1, h2, h3, h4]
 refine callK.of (numberIs _ f.cells 4096) ?_
 rintro _ Hz ⟨rfl, hz⟩
 subst Hz
 simp [h0, h1, h2, h3, h4]
 refine callK.of (numberIs _ f.regs 8) ?_
 rintro _ Hz ⟨rfl, hz⟩
 subst Hz
 simp [h0, h1, h2, h3, h4]
 refine callK.of (numberIs _ f.slots 1024) ?_
 rintro _ Hz ⟨rfl, hz⟩
 subst Hz
 simp [h0, h1, h2, h3, h4]
 apply hK3
 refine T_condT (by first | rfl | simp [h0, h1, h2, h3, h4]) ?_
 refine T_sr fun K92 hK92 => ?_
 simp [h0, h1, h2, h3, h4]
 apply hK92
 refine T_ret ?_
 try simp only [kr]
 exact owes_one (.inr rfl) hwf rfl (by rw [show headB f n = false from by simp only [headB, if_neg h0, if_neg h1, if_pos h2, if_pos h3, if_neg h4]] <;> simp [h0, h1, h2, h3, h4]) (by simp (maxDischargeDepth := 20)) (by simp) (by simp)
 refine T_rg ?_
 simp [h0, h1, h2, h3]
 refine callK.of (numberIs _ f.cells 4096) ?_
 rintro _ Hz ⟨rfl, hz⟩
 subst Hz
 simp [h0, h1, h2, h3]
 refine callK.of (numberIs _ f.regs 8) ?_
 rintro _ Hz ⟨rfl, hz⟩
 subst Hz
 simp [h0, h1, h2, h3]
 apply hK3
 refine T_condT (by first | rfl | simp [h0, h1, h2, h3]) ?_
 refine T_sr fun K93 hK93 => ?_
 simp [h0, h1, h2, h3]
 apply hK93
 refine T_ret ?_
 try simp only [kr]
 exact owes_one (.inr rfl) hwf rfl (by rw [show headB f n = false from by simp only [headB, if_neg h0, if_neg h1, if_pos h2, if_neg h3]] <;> simp [h0, h1, h2, h3]) (by simp (maxDischargeDepth := 20)) (by simp) (by simp)
 refine T_rg ?_
 simp [h0, h1, h2]
 refine callK.of (numberIs _ f.cells 4096) ?_
 rintro _ Hz ⟨rfl, hz⟩
 subst Hz
 simp [h0, h1, h2]
 apply hK3
 refine T_condT (by first | rfl | simp [h0, h1, h2]) ?_
 refine T_sr fun K94 hK94 => ?_
 simp [h0, h1, h2]
 apply hK94
 refine T_ret ?_
 try simp only [kr]
 exact owes_one (.inr rfl) hwf rfl (by rw [show headB f n = false from by simp only [headB, if_neg h0, if_neg h1, if_neg h2]] <;> simp [h0, h1, h2]) (by simp (maxDischargeDepth := 20)) (by simp) (by simp)
end
section
attribute [local simp] abox frame0 nx2 nx3 nx2' bump_setBox setBox_setBox beq_bytes wrap_nn int_beq int_bne DVal.row DOp.row DLook.row DFlat.row DType.row DNeed.row DCell.row eq42 DImage.row DJob.row DLoop.row irow idx22 idx23 idx24 idx45 idx46 idx53 idx9 aFieldAddr aload partOf aBin aBinV AS.Ext.refl AS.Ext.bump AS.Ext.setBox AS.Ext.kill AS.Ext.setMap
def sameName (x j : DJob) : Bool := if x.name = j.name then true else false
theorem sameNameIs (H : AS)  (c id : Nat) (x j : DJob) (hb : H.box id = some [j.row c]) : ACalls Tryz.prog 39 [.agg (x.row c), .ptr id 1 0 0] H fun q H' => q = pb (sameName x j) ∧ H' = H := by
 refine ACalls_intro Tryz.func39 rfl (by kernel_rfl) (by simp) fun hwf hbel => ?_
 have hid : (id = H.next) = False := by have := (hwf.box id _ hb).1; simp; omega
 refine T_sr fun K0 hK0 => ?_
 simp [hb, hid]
 apply hK0
 refine T_sr fun K1 hK1 => ?_
 simp [hb, hid]
 apply hK1
 refine T_ret ?_
 try simp only [kr]
 by_cases h0 : x.name = j.name
 exact owes_one (.inr rfl) hwf rfl (by rw [show sameName x j = true from by simp only [sameName, if_pos h0]] <;> simp [h0]) (by simp (maxDischargeDepth := 20)) (by simp) (by simp)
 exact owes_one (.inr rfl) hwf rfl (by rw [show sameName x j = false from by simp only [sameName, if_neg h0]] <;> simp [h0]) (by simp (maxDischargeDepth := 20)) (by simp) (by simp)
theorem all_of_range {n : Nat} {p : Nat → Bool} {i : Nat} (h : ∀ y : Nat, y < i → p y = true) (hi : i = n) : (List.range n).all p = true := by
 rw [List.all_eq_true]; intro x hx; exact h x (by have := List.mem_range.1 hx; omega)
theorem not_all_of_range {n : Nat} {p : Nat → Bool} {i : Nat} (h : i < n) (hp : p i = false) : ¬ (List.range n).all p = true := by
 intro e
 rw [List.all_eq_true] at e
 have := e i (List.mem_range.2 h)
 rw [hp] at this; cases this
def idxN (js : List DJob) (j : DJob) : Int := if js.all (fun x => !sameName x j) = true then -1 else (js.findIdx (fun x => sameName x j) : Int)
theorem idxN_none {js : List DJob} {j : DJob} {i : Nat} (h : ∀ y : Nat, y < i → sameName (nth js (y : Int)) j = false) (hi : i = js.length) : idxN js j = -1 := by
 unfold idxN
 rw [if_pos]
 exact all_of (i := i) (p := fun x => !sameName x j) (fun y hy => by simp [h y hy]) hi
theorem idxN_some {js : List DJob} {j : DJob} {i : Nat} (h : ∀ y : Nat, y < i → sameName (nth js (y : Int)) j = false) (hi : i < js.length) (hs : sameName (nth js (i : Int)) j = true) : idxN js j = i := by
 unfold idxN
 rw [if_neg (not_all_of hi (by simp [hs]))]
 congr 1
 rw [nth_get js i hi] at hs
 exact (List.findIdx_eq hi).2 ⟨hs, fun y hy => by rw [← nth_get js y (by omega)]; exact h y hy⟩
attribute [local simp] frame0 nx2 nx3 nx2' bump_setBox setBox_setBox beq_bytes wrap_nn int_beq int_bne DVal.row DOp.row DLook.row DFlat.row DType.row DNeed.row DCell.row eq42 DImage.row DJob.row DLoop.row irow idx22 idx23 idx24 idx45 idx46 idx53 idx9 aLen aBin aBinV aload partOf abox Int.ofNat_inj aFieldAddr aUn AS.Ext.refl AS.Ext.bump AS.Ext.setBox AS.Ext.kill AS.Ext.setMap
theorem indexFIs (H : AS)  (c id : Nat) (js : List DJob) (j : DJob) (hb : H.box id = some [j.row c]) (hjs : js.length < 2 ^ 62) : ACalls Tryz.prog 85 [PV.sl c 7 (js.map (DJob.row c)), .func 39 [.ptr id 1 0 0]] H fun q H' => q = pi (idxN js j) ∧ H' = H := by
 refine ACalls_intro Tryz.func85 rfl (by kernel_rfl) (by simp) fun hwf hbel => ?_
 refine T_sr fun K0 hK0 => ?_
 simp
 apply hK0
 refine T_seqk fun K1 hK1 => ?_
 refine T_sr fun K2 hK2 => ?_
 simp
 apply hK2
 refine T_block ?_
 refine T_loop (fun k F H' => ∃ i : Nat, k = js.length - i ∧ i ≤ js.length ∧ F 0 = PV.sl c 7 (js.map (DJob.row c)) ∧ F 1 = .func 39 [.ptr id 1 0 0] ∧ F 7 = pi js.length ∧ F 8 = pi i ∧ H = H' ∧ ∀ y : Nat, y < i → sameName (nth js (y : Int)) j = false) (js.length) ?_ ?_
 refine ⟨0, ?_⟩
 simp
 rintro k F H' ⟨i, rfl, hi, g0, g1, g7, g8, rfl, hall⟩
 refine T_sr fun K3 hK3 => ?_
 simp [g0, g1, g7, g8]
 apply hK3
 refine T_seqk fun K4 hK4 => ?_
 by_cases h0 : i < js.length
 refine T_condT (by first | rfl | simp [h0]) ?_
 refine T_skip ?_
 try simp only [kn]
 apply hK4
 refine T_seqk fun K5 hK5 => ?_
 refine T_block ?_
 refine T_sr fun K6 hK6 => ?_
 simp [g0, g1, g7, g8, h0]
 apply hK6
 refine T_sr fun K7 hK7 => ?_
 simp [g0, g1, g7, g8, h0]
 refine callK.of (sameNameIs _ c id (nth js (i : Int)) j hb) ?_
 rintro _ Hz ⟨rfl, hz⟩
 subst Hz
 simp [g0, g1, g7, g8, h0]
 apply hK7
 by_cases h1 : sameName (nth js (i : Int)) j = true
 refine T_condT (by first | rfl | simp [h0, h1]) ?_
 refine T_sr fun K8 hK8 => ?_
 simp [g0, g1, g7, g8, h0, h1]
 apply hK8
 refine T_ret ?_
 try simp only [kr]
 exact owes_one (.inr rfl) hwf rfl (by rw [idxN_some hall h0 h1] <;> simp) (by simp) (by simp) (by simp)
 refine T_condF (by first | rfl | simp [h0, h1]) ?_
 refine T_skip ?_
 try simp only [kn]
 apply hK5
 refine T_rg ?_
 simp [g0, g1, g7, g8, h0, h1]
 refine ⟨js.length - (i + 1), by omega, i + 1, rfl, by omega, by rw [wrap_i64 (by omega) (by omega)]; rfl, fun y hy => ?_⟩
 by_cases e : y = i
 subst e; simpa using h1
 exact hall y (by omega)
 refine T_condF (by first | rfl | simp [h0]) ?_
 refine T_exit ?_
 try simp only [ke, kn, if_true, if_false, Nat.reduceEqDiff, reduceIte]
 apply hK1
 refine T_sr fun K9 hK9 => ?_
 simp [g0, g1, g7, g8, h0]
 apply hK9
 refine T_ret ?_
 try simp only [kr]
 exact owes_one (.inr rfl) hwf rfl (by rw [idxN_none hall (by omega)] <;> simp) (by simp) (by simp) (by simp)
def containsN (js : List DJob) (j : DJob) : Bool := if 0 ≤ (idxN js j) then true else false
theorem containsIs (H : AS)  (c id : Nat) (js : List DJob) (j : DJob) (hb : H.box id = some [j.row c]) (hjs : js.length < 2 ^ 62) : ACalls Tryz.prog 38 [PV.sl c 7 (js.map (DJob.row c)), .func 39 [.ptr id 1 0 0]] H fun q H' => q = pb (containsN js j) ∧ H' = H := by
 refine ACalls_intro Tryz.func38 rfl (by kernel_rfl) (by simp) fun hwf hbel => ?_
 refine T_sr fun K0 hK0 => ?_
 simp
 apply hK0
 refine T_sr fun K1 hK1 => ?_
 simp
 refine callK.of (indexFIs _ c id js j hb hjs) ?_
 rintro _ Hz ⟨rfl, hz⟩
 subst Hz
 simp
 apply hK1
 refine T_ret ?_
 try simp only [kr]
 by_cases h0 : 0 ≤ (idxN js j)
 exact owes_one (.inr rfl) hwf rfl (by rw [show containsN js j = true from by simp only [containsN, if_pos h0]] <;> simp [h0]) (by simp (maxDischargeDepth := 20)) (by simp) (by simp)
 exact owes_one (.inr rfl) hwf rfl (by rw [show containsN js j = false from by simp only [containsN, if_neg h0]] <;> simp [h0]) (by simp (maxDischargeDepth := 20)) (by simp) (by simp)
def jobL (m : DImage) (j : DJob) (i : Nat) : Bool := if (nth j.codes (i : Int)) < 0 then false else if (m.codes.length : Int) ≤ (nth j.codes (i : Int)) then false else if (nth m.codes (nth j.codes (i : Int))).what = 3 then (if (nth j.bases (i : Int)) < 0 then false else if (IntKind.wrap .i64 ((m.cells.length : Int) - (nth m.codes (nth j.codes (i : Int))).cells)) < (nth j.bases (i : Int)) then false else true) else false
def jobB (m : DImage) (j : DJob) : Bool := if j.interval < 0 then false else if j.single < (-1) then false else if (m.cells.length : Int) ≤ j.single then false else if 0 ≤ j.single then (if (nth m.cells j.single).kind = 1 then (if numberB j.priority 65535 = true then (if numberB j.bound 1048576 = true then (if j.codes.length = j.bases.length then (if 32 < (j.bases.length : Int) then false else if (List.range j.codes.length).all (jobL m j) = true then true else false) else false) else false) else false) else false) else if numberB j.priority 65535 = true then (if numberB j.bound 1048576 = true then (if j.codes.length = j.bases.length then (if 32 < (j.bases.length : Int) then false else if (List.range j.codes.length).all (jobL m j) = true then true else false) else false) else false) else false
theorem jobIsB (H : AS)  (c : Nat) (m : DImage) (j : DJob) (hmc : m.cells.length < 2 ^ 62) (hmd : m.codes.length < 2 ^ 62) : ACalls Tryz.prog 40 [.agg (m.row c), .agg (j.row c)] H fun q H' => q = pb (jobB m j) ∧ H' = H := by
 refine ACalls_intro Tryz.func40 rfl (by kernel_rfl) (by simp) fun hwf hbel => ?_
 refine T_sr fun K0 hK0 => ?_
 simp
 apply hK0
 refine T_seqk fun K1 hK1 => ?_
 refine T_seqk fun K2 hK2 => ?_
 by_cases h0 : j.interval < 0
 refine T_rg ?_
 simp [h0]
 apply hK2
 refine T_condT (by first | rfl | simp [h0]) ?_
 refine T_sr fun K3 hK3 => ?_
 simp [h0]
 apply hK3
 refine T_ret ?_
 try simp only [kr]
 exact owes_one (.inr rfl) hwf rfl (by rw [show jobB m j = false from by simp only [jobB, if_pos h0]] <;> simp [h0]) (by simp (maxDischargeDepth := 20)) (by simp) (by simp)
 by_cases h1 : j.single < (-1)
 refine T_rg ?_
 simp [h0, h1]
 apply hK2
 refine T_condT (by first | rfl | simp [h0, h1]) ?_
 refine T_sr fun K4 hK4 => ?_
 simp [h0, h1]
 apply hK4
 refine T_ret ?_
 try simp only [kr]
 exact owes_one (.inr rfl) hwf rfl (by rw [show jobB m j = false from by simp only [jobB, if_neg h0, if_pos h1]] <;> simp [h0, h1]) (by simp (maxDischargeDepth := 20)) (by simp) (by simp)
 by_cases h2 : (m.cells.length : Int) ≤ j.single
 refine T_rg ?_
 simp [h0, h1, h2]
 apply hK2
 refine T_condT (by first | rfl | simp [h0, h1, h2]) ?_
 refine T_sr fun K5 hK5 => ?_
 simp [h0, h1, h2]
 apply hK5
 refine T_ret ?_
 try simp only [kr]
 exact owes_one (.inr rfl) hwf rfl (by rw [show jobB m j = false from by simp only [jobB, if_neg h0, if_neg h1, if_pos h2]] <;> simp [h0, h1, h2]) (by simp (maxDischargeDepth := 20)) (by simp) (by simp)
 by_cases h3 : 0 ≤ j.single
 refine T_rg ?_
 simp [h0, h1, h2, h3, idx22 c m.cells j.single (by omega) (by omega)]
 apply hK2
 by_cases h4 : (nth m.cells j.single).kind = 1
 refine T_condF (by first | rfl | simp [h0, h1, h2, h3, h4]) ?_
 refine T_skip ?_
 try simp only [kn]
 apply hK1
 refine T_seqk fun K6 hK6 => ?_
 refine T_seqk fun K7 hK7 => ?_
 by_cases h5 : numberB j.priority 65535 = true
 by_cases h6 : numberB j.bound 1048576 = true
 by_cases h7 : j.codes.length = j.bases.length
 refine T_rg ?_
 simp [h0, h1, h2, h3, h4, h5, h6, h7]
 refine callK.of (numberIs _ j.priority 65535) ?_
 rintro _ Hz ⟨rfl, hz⟩
 subst Hz
 simp [h0, h1, h2, h3, h4, h5, h6, h7]
 refine callK.of (numberIs _ j.bound 1048576) ?_
 rintro _ Hz ⟨rfl, hz⟩
 subst Hz
 simp [h0, h1, h2, h3, h4, h5, h6, h7]
 apply hK7
 by_cases h8 : 32 < (j.bases.length : Int)
 refine T_condT (by first | rfl | simp [h0, h1, h2, h3, h4, h5, h6, h7, h8]) ?_
 refine T_sr fun K8 hK8 => ?_
 simp [h0, h1, h2, h3, h4, h5, h6, h7, h8]
 apply hK8
 refine T_ret ?_
 try simp only [kr]
 exact owes_one (.inr rfl) hwf rfl (by rw [show jobB m j = false from by simp only [jobB, if_neg h0, if_neg h1, if_neg h2, if_pos h3, if_pos h4, if_pos h5, if_pos h6, if_pos h7, if_pos h8]] <;> simp [h0, h1, h2, h3, h4, h5, h6, h7, h8]) (by simp (maxDischargeDepth := 20)) (by simp) (by simp)
 refine T_condF (by first | rfl | simp [h0, h1, h2, h3, h4, h5, h6, h7, h8]) ?_
 refine T_skip ?_
 try simp only [kn]
 apply hK6
 refine T_seqk fun K9 hK9 => ?_
 refine T_sr fun K10 hK10 => ?_
 simp [h0, h1, h2, h3, h4, h5, h6, h7, h8]
 apply hK10
 refine T_block ?_
 refine T_loop (fun k F H' => ∃ i : Nat, k = j.codes.length - i ∧ i ≤ j.codes.length ∧ F 2 = .ptr H.next 1 0 0 ∧ F 3 = .ptr (H.next + 1) 1 0 0 ∧ F 64 = PV.sl c 1 (j.codes.map irow) ∧ F 65 = pi j.codes.length ∧ F 66 = pi i ∧ H.Ext H' ∧ H'.box H.next = some [m.row c] ∧ H'.box (H.next + 1) = some [j.row c] ∧ ∀ y : Nat, y < i → jobL m j y = true) (j.codes.length) ?_ ?_
 refine ⟨0, ?_⟩
 simp (maxDischargeDepth := 20) [h0, h1, h2, h3, h4, h5, h6, h7, h8]
 rintro k F H' ⟨i, rfl, hi, g2, g3, g64, g65, g66, hext, m0, m1, hall⟩
 have hnx := hext.next
 refine T_sr fun K11 hK11 => ?_
 simp [g2, g3, g64, g65, g66, hext, m0, m1, h0, h1, h2, h3, h4, h5, h6, h7, h8]
 apply hK11
 refine T_seqk fun K12 hK12 => ?_
 by_cases h9 : i < j.bases.length
 refine T_condT (by first | rfl | simp [h0, h1, h2, h3, h4, h5, h6, h7, h8, h9]) ?_
 refine T_skip ?_
 try simp only [kn]
 apply hK12
 refine T_seqk fun K13 hK13 => ?_
 refine T_block ?_
 refine T_sr fun K14 hK14 => ?_
 simp [g2, g3, g64, g65, g66, hext, m0, m1, h0, h1, h2, h3, h4, h5, h6, h7, h8, h9]
 apply hK14
 refine T_seqk fun K15 hK15 => ?_
 by_cases h10 : (nth j.codes (i : Int)) < 0
 refine T_draw (fun _ => True) [] (.free 0 (.free 1 (.free 2 (.free 3 (.free 4 (.free 5 (.free 6 (.free 7 (.free 8 (.free 9 (.free 10 (.free 11 (.free 12 (.free 13 (.free 14 (.free 15 (.free 16 (.free 17 (.free 18 (.free 19 (.free 20 (.free 21 (.free 22 (.free 23 (.free 24 (.free 25 (.free 26 (.free 27 (.free 28 (.free 29 (.free 30 (.free 31 (.free 32 (.free 33 (.free 34 (.free 35 (.free 36 (.free 37 (.free 38 (.free 39 (.free 40 (.free 41 (.free 42 (.free 43 .done)))))))))))))))))))))))))))))))))))))))))))) mix ?_ ?_ ?_
 kernel_rfl
 kernel_rfl
 simp [Keeps, Same, ↓wanted_some, g2, g3, g64, g65, g66, hext, m0, m1, h0, h1, h2, h3, h4, h5, h6, h7, h8, h9, h10]
 apply hK15
 refine T_condT (by first | rfl | simp [h0, h1, h2, h3, h4, h5, h6, h7, h8, h9, h10]) ?_
 refine T_sr fun K16 hK16 => ?_
 simp [g2, g3, g64, g65, g66, hext, m0, m1, h0, h1, h2, h3, h4, h5, h6, h7, h8, h9, h10]
 apply hK16
 refine T_ret ?_
 try simp only [kr]
 have hnl : ¬ (List.range j.codes.length).all (jobL m j) = true := not_all_of_range (i := i) (by omega) (by
   simp only [jobL, if_pos h10] <;> simp)
 exact owes_one (.inr rfl) hwf rfl (by rw [show jobB m j = false from by simp only [jobB, if_neg h0, if_neg h1, if_neg h2, if_pos h3, if_pos h4, if_pos h5, if_pos h6, if_pos h7, if_neg h8, if_neg hnl]] <;> simp [h0, h1, h2, h3, h4, h5, h6, h7, h8, hnl]) (by simp (maxDischargeDepth := 20) [hext, hnx]) (by simp) (by simp)
 by_cases h11 : (m.codes.length : Int) ≤ (nth j.codes (i : Int))
 refine T_draw (fun _ => True) [] (.free 0 (.free 1 (.free 2 (.free 3 (.free 4 (.free 5 (.free 6 (.free 7 (.free 8 (.free 9 (.free 10 (.free 11 (.free 12 (.free 13 (.free 14 (.free 15 (.free 16 (.free 17 (.free 18 (.free 19 (.free 20 (.free 21 (.free 22 (.free 23 (.free 24 (.free 25 (.free 26 (.free 27 (.free 28 (.free 29 (.free 30 (.free 31 (.free 32 (.free 33 (.free 34 (.free 35 (.free 36 (.free 37 (.free 38 (.free 39 (.free 40 (.free 41 (.free 42 (.free 43 .done)))))))))))))))))))))))))))))))))))))))))))) mix ?_ ?_ ?_
 kernel_rfl
 kernel_rfl
 simp [Keeps, Same, ↓wanted_some, g2, g3, g64, g65, g66, hext, m0, m1, h0, h1, h2, h3, h4, h5, h6, h7, h8, h9, h10, h11, idx53 c j.bases (i : Int) (by omega) (by omega)]
 apply hK15
 refine T_condT (by first | rfl | simp [h0, h1, h2, h3, h4, h5, h6, h7, h8, h9, h10, h11]) ?_
 refine T_sr fun K17 hK17 => ?_
 simp [g2, g3, g64, g65, g66, hext, m0, m1, h0, h1, h2, h3, h4, h5, h6, h7, h8, h9, h10, h11]
 apply hK17
 refine T_ret ?_
 try simp only [kr]
 have hnl : ¬ (List.range j.codes.length).all (jobL m j) = true := not_all_of_range (i := i) (by omega) (by
   simp only [jobL, if_neg h10, if_pos h11] <;> simp)
 exact owes_one (.inr rfl) hwf rfl (by rw [show jobB m j = false from by simp only [jobB, if_neg h0, if_neg h1, if_neg h2, if_pos h3, if_pos h4, if_pos h5, if_pos h6, if_pos h7, if_neg h8, if_neg hnl]] <;> simp [h0, h1, h2, h3, h4, h5, h6, h7, h8, hnl]) (by simp (maxDischargeDepth := 20) [hext, hnx]) (by simp) (by simp)
 by_cases h12 : (nth m.codes (nth j.codes (i : Int))).what = 3
 by_cases h13 : (nth j.bases (i : Int)) < 0
 refine T_draw (fun _ => True) [] (.free 0 (.free 1 (.free 2 (.free 3 (.free 4 (.free 5 (.free 6 (.free 7 (.free 8 (.free 9 (.free 10 (.free 11 (.free 12 (.free 13 (.free 14 (.free 15 (.free 16 (.free 17 (.free 18 (.free 19 (.free 20 (.free 21 (.free 22 (.free 23 (.free 24 (.free 25 (.free 26 (.free 27 (.free 28 (.free 29 (.free 30 (.free 31 (.free 32 (.free 33 (.free 34 (.free 35 (.free 36 (.free 37 (.free 38 (.free 39 (.free 40 (.free 41 (.free 42 (.free 43 .done)))))))))))))))))))))))))))))))))))))))))))) mix ?_ ?_ ?_
 kernel_rfl
 kernel_rfl
 simp [Keeps, Same, ↓wanted_some, g2, g3, g64, g65, g66, hext, m0, m1, h0, h1, h2, h3, h4, h5, h6, h7, h8, h9, h10, h11, h12, h13, idx53 c j.bases (i : Int) (by omega) (by omega), idx23 c m.codes (nth j.codes (i : Int)) (by omega) (by omega)]
 apply hK15
 refine T_condT (by first | rfl | simp [h0, h1, h2, h3, h4, h5, h6, h7, h8, h9, h10, h11, h12, h13]) ?_
 refine T_sr fun K18 hK18 => ?_
 simp [g2, g3, g64, g65, g66, hext, m0, m1, h0, h1, h2, h3, h4, h5, h6, h7, h8, h9, h10, h11, h12, h13]
 apply hK18
 refine T_ret ?_
 try simp only [kr]
 have hnl : ¬ (List.range j.codes.length).all (jobL m j) = true := not_all_of_range (i := i) (by omega) (by
   simp only [jobL, if_neg h10, if_neg h11, if_pos h12, if_pos h13] <;> simp)
 exact owes_one (.inr rfl) hwf rfl (by rw [show jobB m j = false from by simp only [jobB, if_neg h0, if_neg h1, if_neg h2, if_pos h3, if_pos h4, if_pos h5, if_pos h6, if_pos h7, if_neg h8, if_neg hnl]] <;> simp [h0, h1, h2, h3, h4, h5, h6, h7, h8, hnl]) (by simp (maxDischargeDepth := 20) [hext, hnx]) (by simp) (by simp)
 refine T_draw (fun _ => True) [] (.free 0 (.free 1 (.free 2 (.free 3 (.free 4 (.free 5 (.free 6 (.free 7 (.free 8 (.free 9 (.free 10 (.free 11 (.free 12 (.free 13 (.free 14 (.free 15 (.free 16 (.free 17 (.free 18 (.free 19 (.free 20 (.free 21 (.free 22 (.free 23 (.free 24 (.free 25 (.free 26 (.free 27 (.free 28 (.free 29 (.free 30 (.free 31 (.free 32 (.free 33 (.free 34 (.free 35 (.free 36 (.free 37 (.free 38 (.free 39 (.free 40 (.free 41 (.free 42 (.free 43 .done)))))))))))))))))))))))))))))))))))))))))))) mix ?_ ?_ ?_
 kernel_rfl
 kernel_rfl
 simp [Keeps, Same, ↓wanted_some, g2, g3, g64, g65, g66, hext, m0, m1, h0, h1, h2, h3, h4, h5, h6, h7, h8, h9, h10, h11, h12, h13, idx53 c j.bases (i : Int) (by omega) (by omega), idx23 c m.codes (nth j.codes (i : Int)) (by omega) (by omega)]
 apply hK15
 by_cases h14 : (IntKind.wrap .i64 ((m.cells.length : Int) - (nth m.codes (nth j.codes (i : Int))).cells)) < (nth j.bases (i : Int))
 refine T_condT (by first | rfl | simp [h0, h1, h2, h3, h4, h5, h6, h7, h8, h9, h10, h11, h12, h13, h14]) ?_
 refine T_sr fun K19 hK19 => ?_
 simp [g2, g3, g64, g65, g66, hext, m0, m1, h0, h1, h2, h3, h4, h5, h6, h7, h8, h9, h10, h11, h12, h13, h14]
 apply hK19
 refine T_ret ?_
 try simp only [kr]
 have hnl : ¬ (List.range j.codes.length).all (jobL m j) = true := not_all_of_range (i := i) (by omega) (by
   simp only [jobL, if_neg h10, if_neg h11, if_pos h12, if_neg h13, if_pos h14] <;> simp)
 exact owes_one (.inr rfl) hwf rfl (by rw [show jobB m j = false from by simp only [jobB, if_neg h0, if_neg h1, if_neg h2, if_pos h3, if_pos h4, if_pos h5, if_pos h6, if_pos h7, if_neg h8, if_neg hnl]] <;> simp [h0, h1, h2, h3, h4, h5, h6, h7, h8, hnl]) (by simp (maxDischargeDepth := 20) [hext, hnx]) (by simp) (by simp)
 refine T_condF (by first | rfl | simp [h0, h1, h2, h3, h4, h5, h6, h7, h8, h9, h10, h11, h12, h13, h14]) ?_
 refine T_skip ?_
 try simp only [kn]
 apply hK13
 refine T_rg ?_
 simp [g2, g3, g64, g65, g66, hext, m0, m1, h0, h1, h2, h3, h4, h5, h6, h7, h8, h9, h10, h11, h12, h13, h14]
 have hx : jobL m j i = true := by
  simp only [jobL, if_neg h10, if_neg h11, if_pos h12, if_neg h13, if_neg h14]
 refine ⟨j.codes.length - (i + 1), by omega, i + 1, by omega, by omega, by rw [wrap_i64 (by omega) (by omega)]; rfl, fun y hy => ?_⟩
 by_cases e : y = i
 subst e; exact hx
 exact hall y (by omega)
 refine T_draw (fun _ => True) [] (.free 0 (.free 1 (.free 2 (.free 3 (.free 4 (.free 5 (.free 6 (.free 7 (.free 8 (.free 9 (.free 10 (.free 11 (.free 12 (.free 13 (.free 14 (.free 15 (.free 16 (.free 17 (.free 18 (.free 19 (.free 20 (.free 21 (.free 22 (.free 23 (.free 24 (.free 25 (.free 26 (.free 27 (.free 28 (.free 29 (.free 30 (.free 31 (.free 32 (.free 33 (.free 34 (.free 35 (.free 36 (.free 37 (.free 38 (.free 39 (.free 40 (.free 41 (.free 42 (.free 43 .done)))))))))))))))))))))))))))))))))))))))))))) mix ?_ ?_ ?_
 kernel_rfl
 kernel_rfl
 simp [Keeps, Same, ↓wanted_some, g2, g3, g64, g65, g66, hext, m0, m1, h0, h1, h2, h3, h4, h5, h6, h7, h8, h9, h10, h11, h12, idx53 c j.bases (i : Int) (by omega) (by omega), idx23 c m.codes (nth j.codes (i : Int)) (by omega) (by omega)]
 apply hK15
 refine T_condT (by first | rfl | simp [h0, h1, h2, h3, h4, h5, h6, h7, h8, h9, h10, h11, h12]) ?_
 refine T_sr fun K20 hK20 => ?_
 simp [g2, g3, g64, g65, g66, hext, m0, m1, h0, h1, h2, h3, h4, h5, h6, h7, h8, h9, h10, h11, h12]
 apply hK20
 refine T_ret ?_
 try simp only [kr]
 have hnl : ¬ (List.range j.codes.length).all (jobL m j) = true := not_all_of_range (i := i) (by omega) (by
   simp only [jobL, if_neg h10, if_neg h11, if_neg h12] <;> simp)
 exact owes_one (.inr rfl) hwf rfl (by rw [show jobB m j = false from by simp only [jobB, if_neg h0, if_neg h1, if_neg h2, if_pos h3, if_pos h4, if_pos h5, if_pos h6, if_pos h7, if_neg h8, if_neg hnl]] <;> simp [h0, h1, h2, h3, h4, h5, h6, h7, h8, hnl]) (by simp (maxDischargeDepth := 20) [hext, hnx]) (by simp) (by simp)
 have hge : i = j.codes.length := by omega
 have hl9 : (List.range j.codes.length).all (jobL m j) = true := all_of_range hall hge
 refine T_condF (by first | rfl | simp [h0, h1, h2, h3, h4, h5, h6, h7, h8, h9, hl9]) ?_
 refine T_exit ?_
 try simp only [ke, kn, if_true, if_false, Nat.reduceEqDiff, reduceIte]
 apply hK9
 refine T_sr fun K21 hK21 => ?_
 simp [g2, g3, g64, g65, g66, hext, m0, m1, h0, h1, h2, h3, h4, h5, h6, h7, h8, h9, hl9]
 apply hK21
 refine T_ret ?_
 try simp only [kr]
 exact owes_one (.inr rfl) hwf rfl (by rw [show jobB m j = true from by simp only [jobB, if_neg h0, if_neg h1, if_neg h2, if_pos h3, if_pos h4, if_pos h5, if_pos h6, if_pos h7, if_neg h8, if_neg h9, if_pos hl9]] <;> simp [h0, h1, h2, h3, h4, h5, h6, h7, h8, h9, hl9]) (by simp (maxDischargeDepth := 20) [hext, hnx]) (by simp) (by simp)
 refine T_rg ?_
 simp [h0, h1, h2, h3, h4, h5, h6, h7]
 refine callK.of (numberIs _ j.priority 65535) ?_
 rintro _ Hz ⟨rfl, hz⟩
 subst Hz
 simp [h0, h1, h2, h3, h4, h5, h6, h7]
 refine callK.of (numberIs _ j.bound 1048576) ?_
 rintro _ Hz ⟨rfl, hz⟩
 subst Hz
 simp [h0, h1, h2, h3, h4, h5, h6, h7]
 apply hK7
 refine T_condT (by first | rfl | simp [h0, h1, h2, h3, h4, h5, h6, h7]) ?_
 refine T_sr fun K22 hK22 => ?_
 simp [h0, h1, h2, h3, h4, h5, h6, h7]
 apply hK22
 refine T_ret ?_
 try simp only [kr]
 exact owes_one (.inr rfl) hwf rfl (by rw [show jobB m j = false from by simp only [jobB, if_neg h0, if_neg h1, if_neg h2, if_pos h3, if_pos h4, if_pos h5, if_pos h6, if_neg h7]] <;> simp [h0, h1, h2, h3, h4, h5, h6, h7]) (by simp (maxDischargeDepth := 20)) (by simp) (by simp)
 refine T_rg ?_
 simp [h0, h1, h2, h3, h4, h5, h6]
 refine callK.of (numberIs _ j.priority 65535) ?_
 rintro _ Hz ⟨rfl, hz⟩
 subst Hz
 simp [h0, h1, h2, h3, h4, h5, h6]
 refine callK.of (numberIs _ j.bound 1048576) ?_
 rintro _ Hz ⟨rfl, hz⟩
 subst Hz
 simp [h0, h1, h2, h3, h4, h5, h6]
 apply hK7
 refine T_condT (by first | rfl | simp [h0, h1, h2, h3, h4, h5, h6]) ?_
 refine T_sr fun K23 hK23 => ?_
 simp [h0, h1, h2, h3, h4, h5, h6]
 apply hK23
 refine T_ret ?_
 try simp only [kr]
 exact owes_one (.inr rfl) hwf rfl (by rw [show jobB m j = false from by simp only [jobB, if_neg h0, if_neg h1, if_neg h2, if_pos h3, if_pos h4, if_pos h5, if_neg h6]] <;> simp [h0, h1, h2, h3, h4, h5, h6]) (by simp (maxDischargeDepth := 20)) (by simp) (by simp)
 refine T_rg ?_
 simp [h0, h1, h2, h3, h4, h5]
 refine callK.of (numberIs _ j.priority 65535) ?_
 rintro _ Hz ⟨rfl, hz⟩
 subst Hz
 simp [h0, h1, h2, h3, h4, h5]
 apply hK7
 refine T_condT (by first | rfl | simp [h0, h1, h2, h3, h4, h5]) ?_
 refine T_sr fun K24 hK24 => ?_
 simp [h0, h1, h2, h3, h4, h5]
 apply hK24
 refine T_ret ?_
 try simp only [kr]
 exact owes_one (.inr rfl) hwf rfl (by rw [show jobB m j = false from by simp only [jobB, if_neg h0, if_neg h1, if_neg h2, if_pos h3, if_pos h4, if_neg h5]] <;> simp [h0, h1, h2, h3, h4, h5]) (by simp (maxDischargeDepth := 20)) (by simp) (by simp)
 refine T_condT (by first | rfl | simp [h0, h1, h2, h3, h4]) ?_
 refine T_sr fun K25 hK25 => ?_
 simp [h0, h1, h2, h3, h4]
 apply hK25
 refine T_ret ?_
 try simp only [kr]
 exact owes_one (.inr rfl) hwf rfl (by rw [show jobB m j = false from by simp only [jobB, if_neg h0, if_neg h1, if_neg h2, if_pos h3, if_neg h4]] <;> simp [h0, h1, h2, h3, h4]) (by simp (maxDischargeDepth := 20)) (by simp) (by simp)
 refine T_rg ?_
 simp [h0, h1, h2, h3]
 apply hK2
 refine T_condF (by first | rfl | simp [h0, h1, h2, h3]) ?_
 refine T_skip ?_
 try simp only [kn]
 apply hK1
 refine T_seqk fun K26 hK26 => ?_
 refine T_seqk fun K27 hK27 => ?_
 by_cases h15 : numberB j.priority 65535 = true
 by_cases h16 : numberB j.bound 1048576 = true
 by_cases h17 : j.codes.length = j.bases.length
 refine T_rg ?_
 simp [h0, h1, h2, h3, h15, h16, h17]
 refine callK.of (numberIs _ j.priority 65535) ?_
 rintro _ Hz ⟨rfl, hz⟩
 subst Hz
 simp [h0, h1, h2, h3, h15, h16, h17]
 refine callK.of (numberIs _ j.bound 1048576) ?_
 rintro _ Hz ⟨rfl, hz⟩
 subst Hz
 simp [h0, h1, h2, h3, h15, h16, h17]
 apply hK27
 by_cases h18 : 32 < (j.bases.length : Int)
 refine T_condT (by first | rfl | simp [h0, h1, h2, h3, h15, h16, h17, h18]) ?_
 refine T_sr fun K28 hK28 => ?_
 simp [h0, h1, h2, h3, h15, h16, h17, h18]
 apply hK28
 refine T_ret ?_
 try simp only [kr]
 exact owes_one (.inr rfl) hwf rfl (by rw [show jobB m j = false from by simp only [jobB, if_neg h0, if_neg h1, if_neg h2, if_neg h3, if_pos h15, if_pos h16, if_pos h17, if_pos h18]] <;> simp [h0, h1, h2, h3, h15, h16, h17, h18]) (by simp (maxDischargeDepth := 20)) (by simp) (by simp)
 refine T_condF (by first | rfl | simp [h0, h1, h2, h3, h15, h16, h17, h18]) ?_
 refine T_skip ?_
 try simp only [kn]
 apply hK26
 refine T_seqk fun K29 hK29 => ?_
 refine T_sr fun K30 hK30 => ?_
 simp [h0, h1, h2, h3, h15, h16, h17, h18]
 apply hK30
 refine T_block ?_
 refine T_loop (fun k F H' => ∃ i : Nat, k = j.codes.length - i ∧ i ≤ j.codes.length ∧ F 2 = .ptr H.next 1 0 0 ∧ F 3 = .ptr (H.next + 1) 1 0 0 ∧ F 64 = PV.sl c 1 (j.codes.map irow) ∧ F 65 = pi j.codes.length ∧ F 66 = pi i ∧ H.Ext H' ∧ H'.box H.next = some [m.row c] ∧ H'.box (H.next + 1) = some [j.row c] ∧ ∀ y : Nat, y < i → jobL m j y = true) (j.codes.length) ?_ ?_
 refine ⟨0, ?_⟩
 simp (maxDischargeDepth := 20) [h0, h1, h2, h3, h15, h16, h17, h18]
 rintro k F H' ⟨i, rfl, hi, g2, g3, g64, g65, g66, hext, m0, m1, hall⟩
 have hnx := hext.next
 refine T_sr fun K31 hK31 => ?_
 simp [g2, g3, g64, g65, g66, hext, m0, m1, h0, h1, h2, h3, h15, h16, h17, h18]
 apply hK31
 refine T_seqk fun K32 hK32 => ?_
 by_cases h19 : i < j.bases.length
 refine T_condT (by first | rfl | simp [h0, h1, h2, h3, h15, h16, h17, h18, h19]) ?_
 refine T_skip ?_
 try simp only [kn]
 apply hK32
 refine T_seqk fun K33 hK33 => ?_
 refine T_block ?_
 refine T_sr fun K34 hK34 => ?_
 simp [g2, g3, g64, g65, g66, hext, m0, m1, h0, h1, h2, h3, h15, h16, h17, h18, h19]
 apply hK34
 refine T_seqk fun K35 hK35 => ?_
 by_cases h20 : (nth j.codes (i : Int)) < 0
 refine T_draw (fun _ => True) [] (.free 0 (.free 1 (.free 2 (.free 3 (.free 4 (.free 5 (.free 6 (.free 7 (.free 8 (.free 9 (.free 10 (.free 11 (.free 12 (.free 13 (.free 14 (.free 15 (.free 16 (.free 17 (.free 18 (.free 19 (.free 20 (.free 21 (.free 22 (.free 23 (.free 24 (.free 25 (.free 26 (.free 27 (.free 28 (.free 29 (.free 30 (.free 31 (.free 32 (.free 33 (.free 34 (.free 35 (.free 36 (.free 37 (.free 38 (.free 39 (.free 40 (.free 41 (.free 42 (.free 43 .done)))))))))))))))))))))))))))))))))))))))))))) mix ?_ ?_ ?_
 kernel_rfl
 kernel_rfl
 simp [Keeps, Same, ↓wanted_some, g2, g3, g64, g65, g66, hext, m0, m1, h0, h1, h2, h3, h15, h16, h17, h18, h19, h20]
 apply hK35
 refine T_condT (by first | rfl | simp [h0, h1, h2, h3, h15, h16, h17, h18, h19, h20]) ?_
 refine T_sr fun K36 hK36 => ?_
 simp [g2, g3, g64, g65, g66, hext, m0, m1, h0, h1, h2, h3, h15, h16, h17, h18, h19, h20]
 apply hK36
 refine T_ret ?_
 try simp only [kr]
 have hnl : ¬ (List.range j.codes.length).all (jobL m j) = true := not_all_of_range (i := i) (by omega) (by
   simp only [jobL, if_pos h20] <;> simp)
 exact owes_one (.inr rfl) hwf rfl (by rw [show jobB m j = false from by simp only [jobB, if_neg h0, if_neg h1, if_neg h2, if_neg h3, if_pos h15, if_pos h16, if_pos h17, if_neg h18, if_neg hnl]] <;> simp [h0, h1, h2, h3, h15, h16, h17, h18, hnl]) (by simp (maxDischargeDepth := 20) [hext, hnx]) (by simp) (by simp)
 by_cases h21 : (m.codes.length : Int) ≤ (nth j.codes (i : Int))
 refine T_draw (fun _ => True) [] (.free 0 (.free 1 (.free 2 (.free 3 (.free 4 (.free 5 (.free 6 (.free 7 (.free 8 (.free 9 (.free 10 (.free 11 (.free 12 (.free 13 (.free 14 (.free 15 (.free 16 (.free 17 (.free 18 (.free 19 (.free 20 (.free 21 (.free 22 (.free 23 (.free 24 (.free 25 (.free 26 (.free 27 (.free 28 (.free 29 (.free 30 (.free 31 (.free 32 (.free 33 (.free 34 (.free 35 (.free 36 (.free 37 (.free 38 (.free 39 (.free 40 (.free 41 (.free 42 (.free 43 .done)))))))))))))))))))))))))))))))))))))))))))) mix ?_ ?_ ?_
 kernel_rfl
 kernel_rfl
 simp [Keeps, Same, ↓wanted_some, g2, g3, g64, g65, g66, hext, m0, m1, h0, h1, h2, h3, h15, h16, h17, h18, h19, h20, h21, idx53 c j.bases (i : Int) (by omega) (by omega)]
 apply hK35
 refine T_condT (by first | rfl | simp [h0, h1, h2, h3, h15, h16, h17, h18, h19, h20, h21]) ?_
 refine T_sr fun K37 hK37 => ?_
 simp [g2, g3, g64, g65, g66, hext, m0, m1, h0, h1, h2, h3, h15, h16, h17, h18, h19, h20, h21]
 apply hK37
 refine T_ret ?_
 try simp only [kr]
 have hnl : ¬ (List.range j.codes.length).all (jobL m j) = true := not_all_of_range (i := i) (by omega) (by
   simp only [jobL, if_neg h20, if_pos h21] <;> simp)
 exact owes_one (.inr rfl) hwf rfl (by rw [show jobB m j = false from by simp only [jobB, if_neg h0, if_neg h1, if_neg h2, if_neg h3, if_pos h15, if_pos h16, if_pos h17, if_neg h18, if_neg hnl]] <;> simp [h0, h1, h2, h3, h15, h16, h17, h18, hnl]) (by simp (maxDischargeDepth := 20) [hext, hnx]) (by simp) (by simp)
 by_cases h22 : (nth m.codes (nth j.codes (i : Int))).what = 3
 by_cases h23 : (nth j.bases (i : Int)) < 0
 refine T_draw (fun _ => True) [] (.free 0 (.free 1 (.free 2 (.free 3 (.free 4 (.free 5 (.free 6 (.free 7 (.free 8 (.free 9 (.free 10 (.free 11 (.free 12 (.free 13 (.free 14 (.free 15 (.free 16 (.free 17 (.free 18 (.free 19 (.free 20 (.free 21 (.free 22 (.free 23 (.free 24 (.free 25 (.free 26 (.free 27 (.free 28 (.free 29 (.free 30 (.free 31 (.free 32 (.free 33 (.free 34 (.free 35 (.free 36 (.free 37 (.free 38 (.free 39 (.free 40 (.free 41 (.free 42 (.free 43 .done)))))))))))))))))))))))))))))))))))))))))))) mix ?_ ?_ ?_
 kernel_rfl
 kernel_rfl
 simp [Keeps, Same, ↓wanted_some, g2, g3, g64, g65, g66, hext, m0, m1, h0, h1, h2, h3, h15, h16, h17, h18, h19, h20, h21, h22, h23, idx53 c j.bases (i : Int) (by omega) (by omega), idx23 c m.codes (nth j.codes (i : Int)) (by omega) (by omega)]
 apply hK35
 refine T_condT (by first | rfl | simp [h0, h1, h2, h3, h15, h16, h17, h18, h19, h20, h21, h22, h23]) ?_
 refine T_sr fun K38 hK38 => ?_
 simp [g2, g3, g64, g65, g66, hext, m0, m1, h0, h1, h2, h3, h15, h16, h17, h18, h19, h20, h21, h22, h23]
 apply hK38
 refine T_ret ?_
 try simp only [kr]
 have hnl : ¬ (List.range j.codes.length).all (jobL m j) = true := not_all_of_range (i := i) (by omega) (by
   simp only [jobL, if_neg h20, if_neg h21, if_pos h22, if_pos h23] <;> simp)
 exact owes_one (.inr rfl) hwf rfl (by rw [show jobB m j = false from by simp only [jobB, if_neg h0, if_neg h1, if_neg h2, if_neg h3, if_pos h15, if_pos h16, if_pos h17, if_neg h18, if_neg hnl]] <;> simp [h0, h1, h2, h3, h15, h16, h17, h18, hnl]) (by simp (maxDischargeDepth := 20) [hext, hnx]) (by simp) (by simp)
 refine T_draw (fun _ => True) [] (.free 0 (.free 1 (.free 2 (.free 3 (.free 4 (.free 5 (.free 6 (.free 7 (.free 8 (.free 9 (.free 10 (.free 11 (.free 12 (.free 13 (.free 14 (.free 15 (.free 16 (.free 17 (.free 18 (.free 19 (.free 20 (.free 21 (.free 22 (.free 23 (.free 24 (.free 25 (.free 26 (.free 27 (.free 28 (.free 29 (.free 30 (.free 31 (.free 32 (.free 33 (.free 34 (.free 35 (.free 36 (.free 37 (.free 38 (.free 39 (.free 40 (.free 41 (.free 42 (.free 43 .done)))))))))))))))))))))))))))))))))))))))))))) mix ?_ ?_ ?_
 kernel_rfl
 kernel_rfl
 simp [Keeps, Same, ↓wanted_some, g2, g3, g64, g65, g66, hext, m0, m1, h0, h1, h2, h3, h15, h16, h17, h18, h19, h20, h21, h22, h23, idx53 c j.bases (i : Int) (by omega) (by omega), idx23 c m.codes (nth j.codes (i : Int)) (by omega) (by omega)]
 apply hK35
 by_cases h24 : (IntKind.wrap .i64 ((m.cells.length : Int) - (nth m.codes (nth j.codes (i : Int))).cells)) < (nth j.bases (i : Int))
 refine T_condT (by first | rfl | simp [h0, h1, h2, h3, h15, h16, h17, h18, h19, h20, h21, h22, h23, h24]) ?_
 refine T_sr fun K39 hK39 => ?_
 simp [g2, g3, g64, g65, g66, hext, m0, m1, h0, h1, h2, h3, h15, h16, h17, h18, h19, h20, h21, h22, h23, h24]
 apply hK39
 refine T_ret ?_
 try simp only [kr]
 have hnl : ¬ (List.range j.codes.length).all (jobL m j) = true := not_all_of_range (i := i) (by omega) (by
   simp only [jobL, if_neg h20, if_neg h21, if_pos h22, if_neg h23, if_pos h24] <;> simp)
 exact owes_one (.inr rfl) hwf rfl (by rw [show jobB m j = false from by simp only [jobB, if_neg h0, if_neg h1, if_neg h2, if_neg h3, if_pos h15, if_pos h16, if_pos h17, if_neg h18, if_neg hnl]] <;> simp [h0, h1, h2, h3, h15, h16, h17, h18, hnl]) (by simp (maxDischargeDepth := 20) [hext, hnx]) (by simp) (by simp)
 refine T_condF (by first | rfl | simp [h0, h1, h2, h3, h15, h16, h17, h18, h19, h20, h21, h22, h23, h24]) ?_
 refine T_skip ?_
 try simp only [kn]
 apply hK33
 refine T_rg ?_
 simp [g2, g3, g64, g65, g66, hext, m0, m1, h0, h1, h2, h3, h15, h16, h17, h18, h19, h20, h21, h22, h23, h24]
 have hx : jobL m j i = true := by
  simp only [jobL, if_neg h20, if_neg h21, if_pos h22, if_neg h23, if_neg h24]
 refine ⟨j.codes.length - (i + 1), by omega, i + 1, by omega, by omega, by rw [wrap_i64 (by omega) (by omega)]; rfl, fun y hy => ?_⟩
 by_cases e : y = i
 subst e; exact hx
 exact hall y (by omega)
 refine T_draw (fun _ => True) [] (.free 0 (.free 1 (.free 2 (.free 3 (.free 4 (.free 5 (.free 6 (.free 7 (.free 8 (.free 9 (.free 10 (.free 11 (.free 12 (.free 13 (.free 14 (.free 15 (.free 16 (.free 17 (.free 18 (.free 19 (.free 20 (.free 21 (.free 22 (.free 23 (.free 24 (.free 25 (.free 26 (.free 27 (.free 28 (.free 29 (.free 30 (.free 31 (.free 32 (.free 33 (.free 34 (.free 35 (.free 36 (.free 37 (.free 38 (.free 39 (.free 40 (.free 41 (.free 42 (.free 43 .done)))))))))))))))))))))))))))))))))))))))))))) mix ?_ ?_ ?_
 kernel_rfl
 kernel_rfl
 simp [Keeps, Same, ↓wanted_some, g2, g3, g64, g65, g66, hext, m0, m1, h0, h1, h2, h3, h15, h16, h17, h18, h19, h20, h21, h22, idx53 c j.bases (i : Int) (by omega) (by omega), idx23 c m.codes (nth j.codes (i : Int)) (by omega) (by omega)]
 apply hK35
 refine T_condT (by first | rfl | simp [h0, h1, h2, h3, h15, h16, h17, h18, h19, h20, h21, h22]) ?_
 refine T_sr fun K40 hK40 => ?_
 simp [g2, g3, g64, g65, g66, hext, m0, m1, h0, h1, h2, h3, h15, h16, h17, h18, h19, h20, h21, h22]
 apply hK40
 refine T_ret ?_
 try simp only [kr]
 have hnl : ¬ (List.range j.codes.length).all (jobL m j) = true := not_all_of_range (i := i) (by omega) (by
   simp only [jobL, if_neg h20, if_neg h21, if_neg h22] <;> simp)
 exact owes_one (.inr rfl) hwf rfl (by rw [show jobB m j = false from by simp only [jobB, if_neg h0, if_neg h1, if_neg h2, if_neg h3, if_pos h15, if_pos h16, if_pos h17, if_neg h18, if_neg hnl]] <;> simp [h0, h1, h2, h3, h15, h16, h17, h18, hnl]) (by simp (maxDischargeDepth := 20) [hext, hnx]) (by simp) (by simp)
 have hge : i = j.codes.length := by omega
 have hl19 : (List.range j.codes.length).all (jobL m j) = true := all_of_range hall hge
 refine T_condF (by first | rfl | simp [h0, h1, h2, h3, h15, h16, h17, h18, h19, hl19]) ?_
 refine T_exit ?_
 try simp only [ke, kn, if_true, if_false, Nat.reduceEqDiff, reduceIte]
 apply hK29
 refine T_sr fun K41 hK41 => ?_
 simp [g2, g3, g64, g65, g66, hext, m0, m1, h0, h1, h2, h3, h15, h16, h17, h18, h19, hl19]
 apply hK41
 refine T_ret ?_
 try simp only [kr]
 exact owes_one (.inr rfl) hwf rfl (by rw [show jobB m j = true from by simp only [jobB, if_neg h0, if_neg h1, if_neg h2, if_neg h3, if_pos h15, if_pos h16, if_pos h17, if_neg h18, if_neg h19, if_pos hl19]] <;> simp [h0, h1, h2, h3, h15, h16, h17, h18, h19, hl19]) (by simp (maxDischargeDepth := 20) [hext, hnx]) (by simp) (by simp)
 refine T_rg ?_
 simp [h0, h1, h2, h3, h15, h16, h17]
 refine callK.of (numberIs _ j.priority 65535) ?_
 rintro _ Hz ⟨rfl, hz⟩
 subst Hz
 simp [h0, h1, h2, h3, h15, h16, h17]
 refine callK.of (numberIs _ j.bound 1048576) ?_
 rintro _ Hz ⟨rfl, hz⟩
 subst Hz
 simp [h0, h1, h2, h3, h15, h16, h17]
 apply hK27
 refine T_condT (by first | rfl | simp [h0, h1, h2, h3, h15, h16, h17]) ?_
 refine T_sr fun K42 hK42 => ?_
 simp [h0, h1, h2, h3, h15, h16, h17]
 apply hK42
 refine T_ret ?_
 try simp only [kr]
 exact owes_one (.inr rfl) hwf rfl (by rw [show jobB m j = false from by simp only [jobB, if_neg h0, if_neg h1, if_neg h2, if_neg h3, if_pos h15, if_pos h16, if_neg h17]] <;> simp [h0, h1, h2, h3, h15, h16, h17]) (by simp (maxDischargeDepth := 20)) (by simp) (by simp)
 refine T_rg ?_
 simp [h0, h1, h2, h3, h15, h16]
 refine callK.of (numberIs _ j.priority 65535) ?_
 rintro _ Hz ⟨rfl, hz⟩
 subst Hz
 simp [h0, h1, h2, h3, h15, h16]
 refine callK.of (numberIs _ j.bound 1048576) ?_
 rintro _ Hz ⟨rfl, hz⟩
 subst Hz
 simp [h0, h1, h2, h3, h15, h16]
 apply hK27
 refine T_condT (by first | rfl | simp [h0, h1, h2, h3, h15, h16]) ?_
 refine T_sr fun K43 hK43 => ?_
 simp [h0, h1, h2, h3, h15, h16]
 apply hK43
 refine T_ret ?_
 try simp only [kr]
 exact owes_one (.inr rfl) hwf rfl (by rw [show jobB m j = false from by simp only [jobB, if_neg h0, if_neg h1, if_neg h2, if_neg h3, if_pos h15, if_neg h16]] <;> simp [h0, h1, h2, h3, h15, h16]) (by simp (maxDischargeDepth := 20)) (by simp) (by simp)
 refine T_rg ?_
 simp [h0, h1, h2, h3, h15]
 refine callK.of (numberIs _ j.priority 65535) ?_
 rintro _ Hz ⟨rfl, hz⟩
 subst Hz
 simp [h0, h1, h2, h3, h15]
 apply hK27
 refine T_condT (by first | rfl | simp [h0, h1, h2, h3, h15]) ?_
 refine T_sr fun K44 hK44 => ?_
 simp [h0, h1, h2, h3, h15]
 apply hK44
 refine T_ret ?_
 try simp only [kr]
 exact owes_one (.inr rfl) hwf rfl (by rw [show jobB m j = false from by simp only [jobB, if_neg h0, if_neg h1, if_neg h2, if_neg h3, if_neg h15]] <;> simp [h0, h1, h2, h3, h15]) (by simp (maxDischargeDepth := 20)) (by simp) (by simp)
end
section
def errs (n : Nat) (g : Nat → Int) : Int := (((List.range n).map g).find? (fun e => decide (e ≠ 0))).getD 0
theorem errs_ok {n : Nat} {g : Nat → Int} {i : Nat} (h : ∀ y : Nat, y < i → g y = 0) (hi : i = n) : errs n g = 0 := by
 unfold errs
 rw [show ((List.range n).map g).find? (fun e => decide (e ≠ 0)) = none from List.find?_eq_none.2 (fun x hx => by
  obtain ⟨y, hy, rfl⟩ := List.mem_map.1 hx
  have := List.mem_range.1 hy
  simp [h y (by omega)])]
 rfl
theorem errs_bad {n : Nat} {g : Nat → Int} {i : Nat} {e : Int} (h : ∀ y : Nat, y < i → g y = 0) (hi : i < n) (he : g i = e) (h0 : e ≠ 0) : errs n g = e := by
 unfold errs
 have hs : List.range n = List.range i ++ i :: (List.range (n - i - 1)).map (fun y => y + i + 1) := by
  apply List.ext_getElem
  ·simp; omega
  ·intro k h1 h2
   simp only [List.getElem_range]
   by_cases hk : k < i
   ·rw [List.getElem_append_left (by simpa using hk)]; simp
   ·rw [List.getElem_append_right (by simpa using hk)]
    simp only [List.length_range]
    by_cases hk2 : k = i
    ·subst hk2; simp
    ·rw [List.getElem_cons]
     simp [show ¬ k - i = 0 by omega]; omega
 rw [hs, List.map_append, List.find?_append, show ((List.range i).map g).find? (fun e => decide (e ≠ 0)) = none from List.find?_eq_none.2 (fun x hx => by
  obtain ⟨y, hy, rfl⟩ := List.mem_map.1 hx
  have := List.mem_range.1 hy
  simp [h y (by omega)])]
 simp [he, h0]
theorem Owes.mono {P : Program} {fn : Func} {H : AS} {k k' : PV → AS → Prop} {e : Exit} {F' : AF} {H' : AS} (hk : ∀ q H, k q H → k' q H) (h : Owes P fn H k e F' H') : Owes P fn H k' e F' H' := by
 unfold Owes at h ⊢
 refine ⟨h.1, ?_⟩
 have h2 := h.2
 split at h2
 rename_i rs hrs
 obtain ⟨H1, a, b, c, d, e⟩ := h2
 exact ⟨H1, a, b, c, d, hk _ _ e⟩
 exact h2.elim
theorem owes_tri {P : Program} {H : AS} {fn : Func} {r1 r2 r3 : PV} {a b e z : Int} {F' : AF} {H' : AS} {x : Exit} (hx : x = .normal ∨ x = .ret) (hwf : WF H) (hr : aResults P F' H' fn.results.toList = some [r1, r2, r3]) (h1 : r1 = pi a) (h2 : r2 = pi b) (h3 : r3 = pi e) (hz : z = e)
  (hext : H.Ext H') : Owes P fn H (fun q H'' => (∃ a b : Int, q = .tuple [pi a, pi b, pi z]) ∧ H'' = H) x F' H' := by
 subst h1; subst h2; subst h3; subst hz
 refine Owes.mono (k := fun r H'' => r = .tuple [pi a, pi b, pi z] ∧ H'' = H) (fun q H' h => ⟨⟨a, b, h.1⟩, h.2⟩) ?_
 refine owes_pure hx hwf hr ?_ ?_ ?_ <;> simp [frzVs, frzV_one (p := pi _) ⟨by simp, by simp⟩, packed]
 exact hext
def totN (m : DImage) (i : Nat) : Nat := ((m.codes.take i).map (fun f => f.ops.length)).sum
theorem totN_succ {m : DImage} {i : Nat} (h : i < m.codes.length) : totN m (i + 1) = totN m i + (nth m.codes (i : Int)).ops.length := by
 unfold totN
 rw [List.take_succ_eq_append_getElem h, nth_get _ _ h]
 simp only [List.map_append, List.sum_append, List.map_cons, List.map_nil, List.sum_cons, List.sum_nil]; omega
theorem totN_zero (m : DImage) : totN m 0 = 0 := rfl
theorem nth_mem {α : Type} [Inhabited α] {xs : List α} {i : Nat} (h : i < xs.length) : nth xs (i : Int) ∈ xs := by rw [nth_get xs i h]; exact List.getElem_mem h
attribute [local simp] abox frame0 nx2 nx3 nx2' bump_setBox setBox_setBox beq_bytes wrap_nn int_beq int_bne DVal.row DOp.row DLook.row DFlat.row DType.row DNeed.row DCell.row eq42 DImage.row DJob.row DLoop.row irow idx22 idx23 idx24 idx45 idx46 idx53 idx9 aFieldAddr aload partOf aLen aBin aBinV aalloc astore splice aUn aBuild aBuild.go AS.Ext.refl AS.Ext.bump AS.Ext.setBox AS.Ext.kill AS.Ext.setMap
def opsB (m : DImage) (i : Nat) (o : DOp) : Bool := if mayO ({ f := (nth m.codes (i : Int)), codes := (m.codes.length : Int) } : DLook) o = true then (true) else false
def codeE (m : DImage) (i : Nat) : Int := if nameB (nth m.codes (i : Int)).name = true then (if headB (nth m.codes (i : Int)) (m.cells.length : Int) = true then (if 16384 < (totN m (i + 1) : Int) then 4 else if 16384 < ((nth m.codes (i : Int)).loops.length : Int) then 4 else if (nth m.codes (i : Int)).ops.all (opsB m i) = true then (0) else 202) else 202) else 6
def codesE (m : DImage) : Int := if errs m.codes.length (codeE m) = 0 then 0 else errs m.codes.length (codeE m)
theorem codesIs (H : AS)  (c : Nat) (m : DImage) (hn : m.codes.length < 2 ^ 62) (hmc : m.cells.length < 2 ^ 62) (hsz : ∀ f ∈ m.codes, f.ops.length < 2 ^ 62 ∧ f.loops.length < 2 ^ 62) : ACalls Tryz.prog 37 [.agg (m.row c)] H fun q H' => (∃ a b : Int, q = .tuple [pi a, pi b, pi (codesE m)]) ∧ H' = H := by
 refine ACalls_intro Tryz.func37 rfl (by kernel_rfl) (by simp) fun hwf hbel => ?_
 refine T_sr fun K0 hK0 => ?_
 simp
 apply hK0
 refine T_sr fun K1 hK1 => ?_
 simp
 apply hK1
 refine T_seqk fun K2 hK2 => ?_
 refine T_sr fun K3 hK3 => ?_
 simp
 apply hK3
 refine T_block ?_
 refine T_loop (fun k F H' => ∃ i : Nat, k = m.codes.length - i ∧ i ≤ m.codes.length ∧ F 1 = .ptr H.next 1 0 0 ∧ F 5 = pi (totN m i) ∧ F 12 = PV.sl c 8 (m.codes.map (DFlat.row c)) ∧ F 13 = pi m.codes.length ∧ F 14 = pi i ∧ H.Ext H' ∧ H.next < H'.next ∧ H'.box H.next = some [m.row c] ∧ totN m i ≤ 16384 ∧ ∀ y : Nat, y < i → codeE m y = 0) (m.codes.length) ?_ ?_
 refine ⟨0, ?_⟩
 simp (maxDischargeDepth := 20) [totN_zero]
 rintro k F H1 ⟨i, rfl, hi, g1, g5, g12, g13, g14, hext, hn1, m0, ht, hall⟩
 have hnx := hext.next
 have hne : (H.next = H1.next) = False := by simp; omega
 have hne2 : (H1.next = H.next) = False := by simp; omega
 have hne5 : (H.next = H1.next + 1) = False := by simp; omega
 have hnx3 : H.next ≤ H1.next + 1 := by omega
 refine T_sr fun K4 hK4 => ?_
 simp [g1, g5, g12, g13, g14, hext, hn1, m0, ht, hne, hne2, hne5]
 apply hK4
 refine T_seqk fun K5 hK5 => ?_
 by_cases h0 : i < m.codes.length
 refine T_condT (by first | rfl | simp [h0]) ?_
 refine T_skip ?_
 try simp only [kn]
 apply hK5
 refine T_seqk fun K6 hK6 => ?_
 refine T_block ?_
 refine T_sr fun K7 hK7 => ?_
 simp [g1, g5, g12, g13, g14, hext, hn1, m0, ht, hne, hne2, hne5, h0]
 apply hK7
 refine T_sr fun K8 hK8 => ?_
 have hlt : i < m.codes.length := h0
 have hfm := hsz _ (nth_mem hlt)
 have htot : IntKind.i64.wrap ((totN m i : Int) + ((nth m.codes (i : Int)).ops.length : Int)) = (totN m (i + 1) : Int) := by
  have := totN_succ (m := m) hlt
  rw [wrap_i64 (by omega) (by omega)]; omega
 simp [g1, g5, g12, g13, g14, hext, hn1, m0, ht, hne, hne2, hne5, h0, htot]
 apply hK8
 refine T_seqk fun K9 hK9 => ?_
 refine T_block ?_
 refine T_sr fun K10 hK10 => ?_
 simp [g1, g5, g12, g13, g14, hext, hn1, m0, ht, hne, hne2, hne5, h0]
 refine callK.of (isNameIs _ (nth m.codes (i : Int)).name) ?_
 rintro _ Hz ⟨rfl, hz⟩
 subst Hz
 simp [g1, g5, g12, g13, g14, hext, hn1, m0, ht, hne, hne2, hne5, h0]
 apply hK10
 by_cases h1 : nameB (nth m.codes (i : Int)).name = true
 refine T_condF (by first | rfl | simp [h0, h1]) ?_
 refine T_sr fun K11 hK11 => ?_
 simp [g1, g5, g12, g13, g14, hext, hn1, m0, ht, hne, hne2, hne5, h0, h1]
 refine callK.of (headIs _ c (nth m.codes (i : Int)) (m.cells.length : Int) (by omega) (by omega)) ?_
 rintro _ Hz ⟨rfl, hz⟩
 subst Hz
 simp [g1, g5, g12, g13, g14, hext, hn1, m0, ht, hne, hne2, hne5, h0, h1]
 apply hK11
 by_cases h2 : headB (nth m.codes (i : Int)) (m.cells.length : Int) = true
 refine T_condF (by first | rfl | simp [h0, h1, h2]) ?_
 refine T_seqk fun K12 hK12 => ?_
 by_cases h3 : 16384 < (totN m (i + 1) : Int)
 refine T_rg ?_
 simp [g1, g5, g12, g13, g14, hext, hn1, m0, ht, hne, hne2, hne5, h0, h1, h2, h3]
 apply hK12
 refine T_condT (by first | rfl | simp [h0, h1, h2, h3]) ?_
 refine T_sr fun K13 hK13 => ?_
 simp [g1, g5, g12, g13, g14, hext, hn1, m0, ht, hne, hne2, hne5, h0, h1, h2, h3]
 apply hK13
 refine T_ret ?_
 try simp only [kr]
 have hlei : errs m.codes.length (codeE m) = 4 := errs_bad hall (by omega) (by
   simp only [codeE, if_pos h1, if_pos h2, if_pos h3]) (by decide)
 have hnei : ¬ errs m.codes.length (codeE m) = 0 := by rw [hlei]; decide
 exact owes_tri (a := (i : Int)) (b := 0) (e := 4) (.inr rfl) hwf rfl (by simp [g1, g5, g12, g13, g14, hext, hn1, m0, ht, hne, hne2, hne5, hnei]) (by simp [g1, g5, g12, g13, g14, hext, hn1, m0, ht, hne, hne2, hne5, hnei]) (by simp [g1, g5, g12, g13, g14, hext, hn1, m0, ht, hne, hne2, hne5, hnei]) (show codesE m = 4 from by
   simp only [codesE, if_neg hnei]
   exact hlei) (by simp (maxDischargeDepth := 20) [hext, hnx, hnx3])
 refine T_rg ?_
 simp [g1, g5, g12, g13, g14, hext, hn1, m0, ht, hne, hne2, hne5, h0, h1, h2, h3]
 apply hK12
 by_cases h4 : 16384 < ((nth m.codes (i : Int)).loops.length : Int)
 refine T_condT (by first | rfl | simp [h0, h1, h2, h3, h4]) ?_
 refine T_sr fun K14 hK14 => ?_
 simp [g1, g5, g12, g13, g14, hext, hn1, m0, ht, hne, hne2, hne5, h0, h1, h2, h3, h4]
 apply hK14
 refine T_ret ?_
 try simp only [kr]
 have hlei : errs m.codes.length (codeE m) = 4 := errs_bad hall (by omega) (by
   simp only [codeE, if_pos h1, if_pos h2, if_neg h3, if_pos h4]) (by decide)
 have hnei : ¬ errs m.codes.length (codeE m) = 0 := by rw [hlei]; decide
 exact owes_tri (a := (i : Int)) (b := 0) (e := 4) (.inr rfl) hwf rfl (by simp [g1, g5, g12, g13, g14, hext, hn1, m0, ht, hne, hne2, hne5, hnei]) (by simp [g1, g5, g12, g13, g14, hext, hn1, m0, ht, hne, hne2, hne5, hnei]) (by simp [g1, g5, g12, g13, g14, hext, hn1, m0, ht, hne, hne2, hne5, hnei]) (show codesE m = 4 from by
   simp only [codesE, if_neg hnei]
   exact hlei) (by simp (maxDischargeDepth := 20) [hext, hnx, hnx3])
 refine T_condF (by first | rfl | simp [h0, h1, h2, h3, h4]) ?_
 refine T_skip ?_
 try simp only [kn]
 apply hK9
 refine T_sr fun K15 hK15 => ?_
 simp [g1, g5, g12, g13, g14, hext, hn1, m0, ht, hne, hne2, hne5, h0, h1, h2, h3, h4]
 apply hK15
 refine T_sr fun K16 hK16 => ?_
 simp [g1, g5, g12, g13, g14, hext, hn1, m0, ht, hne, hne2, hne5, h0, h1, h2, h3, h4]
 apply hK16
 refine T_block ?_
 refine T_loop (fun k F H' => ∃ p : Nat, k = (nth m.codes (i : Int)).ops.length - p ∧ p ≤ (nth m.codes (i : Int)).ops.length ∧ F 1 = .ptr H.next 1 0 0 ∧ F 5 = pi (totN m (i + 1)) ∧ F 6 = pi i ∧ F 12 = PV.sl c 8 (m.codes.map (DFlat.row c)) ∧ F 13 = pi m.codes.length ∧ F 14 = pi i ∧ F 8 = .ptr (H1.next + 1) 1 0 0 ∧ F 54 = PV.sl c 10 ((nth m.codes (i : Int)).ops.map DOp.row) ∧ F 55 = pi (nth m.codes (i : Int)).ops.length ∧ F 56 = pi p ∧ H.Ext H' ∧ H1.next + 1 < H'.next ∧ H'.box H.next = some [m.row c] ∧ H'.box (H1.next + 1) = some [DLook.row c { f := (nth m.codes (i : Int)), codes := (m.codes.length : Int) }] ∧ ∀ y : Nat, y < p → opsB m i (nth (nth m.codes (i : Int)).ops (y : Int)) = true) ((nth m.codes (i : Int)).ops.length) ?_ ?_
 refine ⟨0, ?_⟩
 simp (maxDischargeDepth := 20) [g1, g5, g12, g13, g14, hext, hn1, m0, ht, hne, hne2, hne5, hnx, hnx3, h0, h1, h2, h3, h4]
 rintro k F H2 ⟨p, rfl, hi2, g1, g5, g6, g12, g13, g14, g8, g54, g55, g56, hext2, hn2, m02, m8, hall2⟩
 have hnx2 := hext2.next
 have hne3 : (H.next = H2.next) = False := by simp; omega
 have hne4 : (H1.next + 1 = H2.next) = False := by simp; omega
 refine T_sr fun K17 hK17 => ?_
 simp [g1, g5, g6, g12, g13, g14, g8, g54, g55, g56, hext2, hn2, m02, m8, hne3, hne4, h0, h1, h2, h3, h4]
 apply hK17
 refine T_seqk fun K18 hK18 => ?_
 by_cases h5 : p < (nth m.codes (i : Int)).ops.length
 refine T_condT (by first | rfl | simp [h0, h1, h2, h3, h4, h5]) ?_
 refine T_skip ?_
 try simp only [kn]
 apply hK18
 refine T_seqk fun K19 hK19 => ?_
 refine T_block ?_
 refine T_sr fun K20 hK20 => ?_
 simp [g1, g5, g6, g12, g13, g14, g8, g54, g55, g56, hext2, hn2, m02, m8, hne3, hne4, h0, h1, h2, h3, h4, h5]
 apply hK20
 refine T_sr fun K21 hK21 => ?_
 simp [g1, g5, g6, g12, g13, g14, g8, g54, g55, g56, hext2, hn2, m02, m8, hne3, hne4, h0, h1, h2, h3, h4, h5]
 refine callK.of (mayOIs _ c ({ f := (nth m.codes (i : Int)), codes := (m.codes.length : Int) } : DLook) (nth (nth m.codes (i : Int)).ops (p : Int))) ?_
 rintro _ Hz ⟨rfl, hz⟩
 subst Hz
 simp [g1, g5, g6, g12, g13, g14, g8, g54, g55, g56, hext2, hn2, m02, m8, hne3, hne4, h0, h1, h2, h3, h4, h5]
 apply hK21
 by_cases h6 : mayO ({ f := (nth m.codes (i : Int)), codes := (m.codes.length : Int) } : DLook) (nth (nth m.codes (i : Int)).ops (p : Int)) = true
 refine T_condF (by first | rfl | simp [h0, h1, h2, h3, h4, h5, h6]) ?_
 refine T_skip ?_
 try simp only [kn]
 apply hK19
 refine T_rg ?_
 simp [g1, g5, g6, g12, g13, g14, g8, g54, g55, g56, hext2, hn2, m02, m8, hne3, hne4, h0, h1, h2, h3, h4, h5, h6]
 have hx : opsB m i (nth (nth m.codes (i : Int)).ops (p : Int)) = true := by
  simp only [opsB, if_pos h6]
 refine ⟨(nth m.codes (i : Int)).ops.length - (p + 1), by omega, p + 1, by omega, by omega, by rw [wrap_i64 (by omega) (by omega)]; rfl, by simp (maxDischargeDepth := 20) [hext2, hnx2], by omega, fun y hy => ?_⟩
 by_cases e : y = p
 subst e; exact hx
 exact hall2 y (by omega)
 refine T_condT (by first | rfl | simp [h0, h1, h2, h3, h4, h5, h6]) ?_
 refine T_sr fun K22 hK22 => ?_
 simp [g1, g5, g6, g12, g13, g14, g8, g54, g55, g56, hext2, hn2, m02, m8, hne3, hne4, h0, h1, h2, h3, h4, h5, h6]
 apply hK22
 refine T_ret ?_
 try simp only [kr]
 have hnlp : ¬ (nth m.codes (i : Int)).ops.all (opsB m i) = true := not_all_of (i := p) (by omega) (by
   simp only [opsB, if_neg h6] <;> simp)
 have hlei : errs m.codes.length (codeE m) = 202 := errs_bad hall (by omega) (by
   simp only [codeE, if_pos h1, if_pos h2, if_neg h3, if_neg h4, if_neg hnlp]) (by decide)
 have hnei : ¬ errs m.codes.length (codeE m) = 0 := by rw [hlei]; decide
 exact owes_tri (a := (i : Int)) (b := (p : Int)) (e := 202) (.inr rfl) hwf rfl (by simp [g1, g5, g6, g12, g13, g14, g8, g54, g55, g56, hext2, hn2, m02, m8, hne3, hne4, hnei]) (by simp [g1, g5, g6, g12, g13, g14, g8, g54, g55, g56, hext2, hn2, m02, m8, hne3, hne4, hnei]) (by simp [g1, g5, g6, g12, g13, g14, g8, g54, g55, g56, hext2, hn2, m02, m8, hne3, hne4, hnei]) (show codesE m = 202 from by
   simp only [codesE, if_neg hnei]
   exact hlei) (by simp (maxDischargeDepth := 20) [hext2, hnx2])
 have hge2 : p = (nth m.codes (i : Int)).ops.length := by omega
 have hl5 : (nth m.codes (i : Int)).ops.all (opsB m i) = true := all_of hall2 hge2
 refine T_condF (by first | rfl | simp [h0, h1, h2, h3, h4, h5, hl5]) ?_
 refine T_exit ?_
 try simp only [ke, kn, if_true, if_false, Nat.reduceEqDiff, reduceIte]
 apply hK6
 refine T_rg ?_
 simp [g1, g5, g6, g12, g13, g14, g8, g54, g55, g56, hext2, hn2, m02, m8, hne3, hne4, h0, h1, h2, h3, h4, h5, hl5]
 have hx : codeE m i = 0 := by
  simp only [codeE, if_pos h1, if_pos h2, if_neg h3, if_neg h4, if_neg h5, if_pos hl5]
 refine ⟨m.codes.length - (i + 1), by omega, i + 1, by omega, by omega, rfl, by rw [wrap_i64 (by omega) (by omega)]; rfl, by omega, by omega, fun y hy => ?_⟩
 by_cases e : y = i
 subst e; exact hx
 exact hall y (by omega)
 refine T_condT (by first | rfl | simp [h0, h1, h2]) ?_
 refine T_sr fun K23 hK23 => ?_
 simp [g1, g5, g12, g13, g14, hext, hn1, m0, ht, hne, hne2, hne5, h0, h1, h2]
 apply hK23
 refine T_ret ?_
 try simp only [kr]
 have hlei : errs m.codes.length (codeE m) = 202 := errs_bad hall (by omega) (by
   simp only [codeE, if_pos h1, if_neg h2]) (by decide)
 have hnei : ¬ errs m.codes.length (codeE m) = 0 := by rw [hlei]; decide
 exact owes_tri (a := (i : Int)) (b := 0) (e := 202) (.inr rfl) hwf rfl (by simp [g1, g5, g12, g13, g14, hext, hn1, m0, ht, hne, hne2, hne5, hnei]) (by simp [g1, g5, g12, g13, g14, hext, hn1, m0, ht, hne, hne2, hne5, hnei]) (by simp [g1, g5, g12, g13, g14, hext, hn1, m0, ht, hne, hne2, hne5, hnei]) (show codesE m = 202 from by
   simp only [codesE, if_neg hnei]
   exact hlei) (by simp (maxDischargeDepth := 20) [hext, hnx, hnx3])
 refine T_condT (by first | rfl | simp [h0, h1]) ?_
 refine T_sr fun K24 hK24 => ?_
 simp [g1, g5, g12, g13, g14, hext, hn1, m0, ht, hne, hne2, hne5, h0, h1]
 apply hK24
 refine T_ret ?_
 try simp only [kr]
 have hlei : errs m.codes.length (codeE m) = 6 := errs_bad hall (by omega) (by
   simp only [codeE, if_neg h1]) (by decide)
 have hnei : ¬ errs m.codes.length (codeE m) = 0 := by rw [hlei]; decide
 exact owes_tri (a := (i : Int)) (b := 0) (e := 6) (.inr rfl) hwf rfl (by simp [g1, g5, g12, g13, g14, hext, hn1, m0, ht, hne, hne2, hne5, hnei]) (by simp [g1, g5, g12, g13, g14, hext, hn1, m0, ht, hne, hne2, hne5, hnei]) (by simp [g1, g5, g12, g13, g14, hext, hn1, m0, ht, hne, hne2, hne5, hnei]) (show codesE m = 6 from by
   simp only [codesE, if_neg hnei]
   exact hlei) (by simp (maxDischargeDepth := 20) [hext, hnx, hnx3])
 have hge : i = m.codes.length := by omega
 have hl0 : errs m.codes.length (codeE m) = 0 := errs_ok hall hge
 refine T_condF (by first | rfl | simp [h0, hl0]) ?_
 refine T_exit ?_
 try simp only [ke, kn, if_true, if_false, Nat.reduceEqDiff, reduceIte]
 apply hK2
 refine T_sr fun K25 hK25 => ?_
 simp [g1, g5, g12, g13, g14, hext, hn1, m0, ht, hne, hne2, hne5, h0, hl0]
 apply hK25
 refine T_ret ?_
 try simp only [kr]
 exact owes_tri (a := 0) (b := 0) (e := 0) (.inr rfl) hwf rfl (by simp [g1, g5, g12, g13, g14, hext, hn1, m0, ht, hne, hne2, hne5, h0, hl0]) (by simp [g1, g5, g12, g13, g14, hext, hn1, m0, ht, hne, hne2, hne5, h0, hl0]) (by simp [g1, g5, g12, g13, g14, hext, hn1, m0, ht, hne, hne2, hne5, h0, hl0]) (show codesE m = 0 from by
   simp only [codesE, if_neg h0, if_pos hl0]) (by simp (maxDischargeDepth := 20) [hext, hnx, hnx3])
end
end Go.Abs
namespace Go.Proofs
open Go.Shelf
def Tryz.lays137_ren : Go.Shelf.Ren := ⟨fun | 137 => 103 | 217 => 125 | 266 => 139 | n => n, fun | 9 => 9 | 5 => 5 | 3 => 3 | n => n, fun | n => n⟩
theorem Tryz.lays137 : Go.Proofs.Lays.n137 Tryz.prog Tryz.lays137_ren := {
 mixed := by kernel_rfl
 f137 := Tryz.func103.trans (congrArg some (by kernel_rfl))
 f217 := Tryz.func125.trans (congrArg some (by kernel_rfl))
 f266 := Tryz.func139.trans (congrArg some (by kernel_rfl))
 t3 := Tryz.underlying3
 a3 := Tryz.isAgg3
 z3 := Tryz.sizeOf3
 v3 := Tryz.zeroValue3
 t5 := Tryz.underlying5
 a5 := Tryz.isAgg5
 z5 := Tryz.sizeOf5
 v5 := Tryz.zeroValue5
 t9 := Tryz.underlying9
 a9 := Tryz.isAgg9
 z9 := Tryz.sizeOf9
 v9 := Tryz.zeroValue9 }
open Go.RowKit in
theorem Tryz.strings_IndexByte (s : ByteArray) (c : Int) (w : World) :
  Calls Tryz.prog 103 #[.string s, .int .u8 c] w fun e w' => e = .returned (.int .i64 (Lib.indexByte s.data.toList c.toNat.toUInt8)) ∧ w' = w := Any.strings_IndexByte Tryz.lays137 s c w
def Tryz.laysM171_ren : Go.Shelf.Ren := ⟨fun | 171 => 105 | 243 => 128 | 246 => 145 | 283 => 149 | 284 => 150 | 285 => 151 | 286 => 152 | 129 => 156 | 317 => 155 | 318 => 157 | 319 => 158 | 320 => 159 | 337 => 160 | 338 => 161 | n => n, fun | 3 => 3 | 9 => 9 | 2 => 2 | 4 => 4 | 171 => 179 | 0 => 0 | 53 => 40 | 37 => 28 | 5 => 5 | 173 => 182 | 212 => 191 | 51 => 65 | 20 => 20 | 213 => 192 | 46 => 27 | 232 => 195 | 233 => 196 | n => n, fun | 17 => 4 | 18 => 5 | 19 => 6 | n => n⟩
theorem Tryz.laysM171 : Go.Proofs.LaysM.n171 Tryz.prog Tryz.laysM171_ren := {
 mixed := by kernel_rfl
 f129 := Tryz.func156.trans (congrArg some (by kernel_rfl))
 f171 := Tryz.func105.trans (congrArg some (by kernel_rfl))
 f243 := Tryz.func128.trans (congrArg some (by kernel_rfl))
 f246 := Tryz.func145.trans (congrArg some (by kernel_rfl))
 f283 := Tryz.func149.trans (congrArg some (by kernel_rfl))
 f284 := Tryz.func150.trans (congrArg some (by kernel_rfl))
 f285 := Tryz.func151.trans (congrArg some (by kernel_rfl))
 f286 := Tryz.func152.trans (congrArg some (by kernel_rfl))
 f317 := Tryz.func155.trans (congrArg some (by kernel_rfl))
 f318 := Tryz.func157.trans (congrArg some (by kernel_rfl))
 f319 := Tryz.func158.trans (congrArg some (by kernel_rfl))
 f320 := Tryz.func159.trans (congrArg some (by kernel_rfl))
 f337 := Tryz.func160.trans (congrArg some (by kernel_rfl))
 f338 := Tryz.func161.trans (congrArg some (by kernel_rfl))
 t0 := Tryz.underlying0
 a0 := Tryz.isAgg0
 z0 := Tryz.sizeOf0
 v0 := Tryz.zeroValue0
 t2 := Tryz.underlying2
 a2 := Tryz.isAgg2
 z2 := Tryz.sizeOf2
 v2 := Tryz.zeroValue2
 t3 := Tryz.underlying3
 a3 := Tryz.isAgg3
 z3 := Tryz.sizeOf3
 v3 := Tryz.zeroValue3
 t4 := Tryz.underlying4
 a4 := Tryz.isAgg4
 z4 := Tryz.sizeOf4
 v4 := Tryz.zeroValue4
 t5 := Tryz.underlying5
 a5 := Tryz.isAgg5
 z5 := Tryz.sizeOf5
 v5 := Tryz.zeroValue5
 t9 := Tryz.underlying9
 a9 := Tryz.isAgg9
 z9 := Tryz.sizeOf9
 v9 := Tryz.zeroValue9
 t20 := Tryz.underlying20
 a20 := Tryz.isAgg20
 z20 := Tryz.sizeOf20
 v20 := Tryz.zeroValue20
 t37 := Tryz.underlying28
 a37 := Tryz.isAgg28
 z37 := Tryz.sizeOf28
 v37 := Tryz.zeroValue28
 t46 := Tryz.underlying27
 a46 := Tryz.isAgg27
 z46 := Tryz.sizeOf27
 v46 := Tryz.zeroValue27
 t51 := Tryz.underlying65
 a51 := Tryz.isAgg65
 z51 := Tryz.sizeOf65
 v51 := Tryz.zeroValue65
 t53 := Tryz.underlying40
 a53 := Tryz.isAgg40
 z53 := Tryz.sizeOf40
 v53 := Tryz.zeroValue40
 t171 := Tryz.underlying179
 a171 := Tryz.isAgg179
 z171 := Tryz.sizeOf179
 v171 := Tryz.zeroValue179
 t173 := Tryz.underlying182
 a173 := Tryz.isAgg182
 z173 := Tryz.sizeOf182
 v173 := Tryz.zeroValue182
 t212 := Tryz.underlying191
 a212 := Tryz.isAgg191
 z212 := Tryz.sizeOf191
 v212 := Tryz.zeroValue191
 t213 := Tryz.underlying192
 a213 := Tryz.isAgg192
 z213 := Tryz.sizeOf192
 t232 := Tryz.underlying195
 a232 := Tryz.isAgg195
 z232 := Tryz.sizeOf195
 v232 := Tryz.zeroValue195
 t233 := Tryz.underlying196
 a233 := Tryz.isAgg196
 z233 := Tryz.sizeOf196
 v233 := Tryz.zeroValue196
 g17 := by kernel_rfl
 g18 := by kernel_rfl
 g19 := by kernel_rfl
 i0 := by kernel_rfl
 i2 := by kernel_rfl
 i3 := by kernel_rfl
 i4 := by kernel_rfl
 i5 := by kernel_rfl
 i9 := by kernel_rfl
 i20 := by kernel_rfl
 i37 := by kernel_rfl
 i46 := by kernel_rfl
 i51 := by kernel_rfl
 i53 := by kernel_rfl
 i171 := by kernel_rfl
 i173 := by kernel_rfl
 i212 := by kernel_rfl
 i232 := by kernel_rfl
 i233 := by kernel_rfl
 m17 := by kernel_rfl
 m18 := by kernel_rfl
 m19 := by kernel_rfl }
open Go.RowKit Go.Sort Go.Lib in
theorem Tryz.strconv_Itoa (n : Int) (h0 : -9223372036854775808 ≤ n) (h1 : n ≤ 9223372036854775807) (w : World) (htab : Lib.TabIs Tryz.prog w "internal/strconv.uint64pow10" .u64 Lib.pow10Tab) :
  Calls Tryz.prog 105 #[.int .i64 n] w fun e w' => e = .returned (.string ⟨(Lib.itoa n).toArray⟩) ∧ ∃ k os, w' = grow (w.drewN k) os := Any.strconv_Itoa Tryz.laysM171 n h0 h1 w htab
def Tryz.laysC172_ren : Go.Shelf.Ren := ⟨fun | 172 => 104 | 244 => 126 | 245 => 127 | 247 => 140 | 279 => 141 | 280 => 142 | 281 => 143 | 282 => 144 | 287 => 146 | 316 => 147 | 171 => 105 | 205 => 148 | 321 => 153 | 322 => 154 | 243 => 128 | 246 => 145 | 283 => 149 | 284 => 150 | 285 => 151 | 286 => 152 | 129 => 156 | 317 => 155 | 318 => 157 | 319 => 158 | 320 => 159 | 337 => 160 | 338 => 161 | n => n, fun | 9 => 9 | 3 => 3 | 75 => 150 | 76 => 151 | 4 => 4 | 5 => 5 | 167 => 167 | 37 => 28 | 0 => 0 | 85 => 168 | 2 => 2 | 168 => 170 | 53 => 40 | 175 => 174 | 46 => 27 | 210 => 177 | 127 => 185 | 145 => 188 | 143 => 186 | 21 => 21 | 171 => 179 | 173 => 182 | 212 => 191 | 51 => 65 | 20 => 20 | 213 => 192 | 232 => 195 | 233 => 196 | 80 => 73 | n => n, fun | 15 => 2 | 16 => 3 | 17 => 4 | 18 => 5 | 19 => 6 | n => n⟩
theorem Tryz.laysC172 : Go.Proofs.LaysC.n172 Tryz.prog Tryz.laysC172_ren := {
 mixed := by kernel_rfl
 f129 := Tryz.func156.trans (congrArg some (by kernel_rfl))
 f171 := Tryz.func105.trans (congrArg some (by kernel_rfl))
 f172 := Tryz.func104.trans (congrArg some (by kernel_rfl))
 f205 := Tryz.func148.trans (congrArg some (by kernel_rfl))
 f243 := Tryz.func128.trans (congrArg some (by kernel_rfl))
 f244 := Tryz.func126.trans (congrArg some (by kernel_rfl))
 f245 := Tryz.func127.trans (congrArg some (by kernel_rfl))
 f246 := Tryz.func145.trans (congrArg some (by kernel_rfl))
 f247 := Tryz.func140.trans (congrArg some (by kernel_rfl))
 f279 := Tryz.func141.trans (congrArg some (by kernel_rfl))
 f280 := Tryz.func142.trans (congrArg some (by kernel_rfl))
 f281 := Tryz.func143.trans (congrArg some (by kernel_rfl))
 f282 := Tryz.func144.trans (congrArg some (by kernel_rfl))
 f283 := Tryz.func149.trans (congrArg some (by kernel_rfl))
 f284 := Tryz.func150.trans (congrArg some (by kernel_rfl))
 f285 := Tryz.func151.trans (congrArg some (by kernel_rfl))
 f286 := Tryz.func152.trans (congrArg some (by kernel_rfl))
 f287 := Tryz.func146.trans (congrArg some (by kernel_rfl))
 f316 := Tryz.func147.trans (congrArg some (by kernel_rfl))
 f317 := Tryz.func155.trans (congrArg some (by kernel_rfl))
 f318 := Tryz.func157.trans (congrArg some (by kernel_rfl))
 f319 := Tryz.func158.trans (congrArg some (by kernel_rfl))
 f320 := Tryz.func159.trans (congrArg some (by kernel_rfl))
 f321 := Tryz.func153.trans (congrArg some (by kernel_rfl))
 f322 := Tryz.func154.trans (congrArg some (by kernel_rfl))
 f337 := Tryz.func160.trans (congrArg some (by kernel_rfl))
 f338 := Tryz.func161.trans (congrArg some (by kernel_rfl))
 t0 := Tryz.underlying0
 a0 := Tryz.isAgg0
 z0 := Tryz.sizeOf0
 v0 := Tryz.zeroValue0
 t2 := Tryz.underlying2
 a2 := Tryz.isAgg2
 z2 := Tryz.sizeOf2
 v2 := Tryz.zeroValue2
 t3 := Tryz.underlying3
 a3 := Tryz.isAgg3
 z3 := Tryz.sizeOf3
 v3 := Tryz.zeroValue3
 t4 := Tryz.underlying4
 a4 := Tryz.isAgg4
 z4 := Tryz.sizeOf4
 v4 := Tryz.zeroValue4
 t5 := Tryz.underlying5
 a5 := Tryz.isAgg5
 z5 := Tryz.sizeOf5
 v5 := Tryz.zeroValue5
 t9 := Tryz.underlying9
 a9 := Tryz.isAgg9
 z9 := Tryz.sizeOf9
 v9 := Tryz.zeroValue9
 t20 := Tryz.underlying20
 a20 := Tryz.isAgg20
 z20 := Tryz.sizeOf20
 v20 := Tryz.zeroValue20
 t21 := Tryz.underlying21
 a21 := Tryz.isAgg21
 z21 := Tryz.sizeOf21
 v21 := Tryz.zeroValue21
 t37 := Tryz.underlying28
 a37 := Tryz.isAgg28
 z37 := Tryz.sizeOf28
 v37 := Tryz.zeroValue28
 t46 := Tryz.underlying27
 a46 := Tryz.isAgg27
 z46 := Tryz.sizeOf27
 v46 := Tryz.zeroValue27
 t51 := Tryz.underlying65
 a51 := Tryz.isAgg65
 z51 := Tryz.sizeOf65
 v51 := Tryz.zeroValue65
 t53 := Tryz.underlying40
 a53 := Tryz.isAgg40
 z53 := Tryz.sizeOf40
 v53 := Tryz.zeroValue40
 t75 := Tryz.underlying150
 a75 := Tryz.isAgg150
 z75 := Tryz.sizeOf150
 v75 := Tryz.zeroValue150
 t76 := Tryz.underlying151
 a76 := Tryz.isAgg151
 z76 := Tryz.sizeOf151
 v76 := Tryz.zeroValue151
 t85 := Tryz.underlying168
 a85 := Tryz.isAgg168
 z85 := Tryz.sizeOf168
 v85 := Tryz.zeroValue168
 t127 := Tryz.underlying185
 a127 := Tryz.isAgg185
 z127 := Tryz.sizeOf185
 v127 := Tryz.zeroValue185
 t143 := Tryz.underlying186
 a143 := Tryz.isAgg186
 z143 := Tryz.sizeOf186
 v143 := Tryz.zeroValue186
 t145 := Tryz.underlying188
 a145 := Tryz.isAgg188
 z145 := Tryz.sizeOf188
 v145 := Tryz.zeroValue188
 t167 := Tryz.underlying167
 a167 := Tryz.isAgg167
 z167 := Tryz.sizeOf167
 v167 := Tryz.zeroValue167
 t168 := Tryz.underlying170
 a168 := Tryz.isAgg170
 z168 := Tryz.sizeOf170
 v168 := Tryz.zeroValue170
 t171 := Tryz.underlying179
 a171 := Tryz.isAgg179
 z171 := Tryz.sizeOf179
 v171 := Tryz.zeroValue179
 t173 := Tryz.underlying182
 a173 := Tryz.isAgg182
 z173 := Tryz.sizeOf182
 v173 := Tryz.zeroValue182
 t175 := Tryz.underlying174
 a175 := Tryz.isAgg174
 z175 := Tryz.sizeOf174
 v175 := Tryz.zeroValue174
 t210 := Tryz.underlying177
 a210 := Tryz.isAgg177
 z210 := Tryz.sizeOf177
 v210 := Tryz.zeroValue177
 t212 := Tryz.underlying191
 a212 := Tryz.isAgg191
 z212 := Tryz.sizeOf191
 v212 := Tryz.zeroValue191
 t213 := Tryz.underlying192
 a213 := Tryz.isAgg192
 z213 := Tryz.sizeOf192
 t232 := Tryz.underlying195
 a232 := Tryz.isAgg195
 z232 := Tryz.sizeOf195
 v232 := Tryz.zeroValue195
 t233 := Tryz.underlying196
 a233 := Tryz.isAgg196
 z233 := Tryz.sizeOf196
 v233 := Tryz.zeroValue196
 g15 := by kernel_rfl
 g16 := by kernel_rfl
 g17 := by kernel_rfl
 g18 := by kernel_rfl
 g19 := by kernel_rfl
 t80 := Tryz.underlying73
 a80 := Tryz.isAgg73
 z80 := Tryz.sizeOf73
 v80 := Tryz.zeroValue73
 i0 := by kernel_rfl
 i2 := by kernel_rfl
 i3 := by kernel_rfl
 i4 := by kernel_rfl
 i5 := by kernel_rfl
 i9 := by kernel_rfl
 i20 := by kernel_rfl
 i21 := by kernel_rfl
 i37 := by kernel_rfl
 i46 := by kernel_rfl
 i51 := by kernel_rfl
 i53 := by kernel_rfl
 i75 := by kernel_rfl
 i76 := by kernel_rfl
 i80 := by kernel_rfl
 i85 := by kernel_rfl
 i127 := by kernel_rfl
 i143 := by kernel_rfl
 i145 := by kernel_rfl
 i167 := by kernel_rfl
 i168 := by kernel_rfl
 i171 := by kernel_rfl
 i173 := by kernel_rfl
 i175 := by kernel_rfl
 i210 := by kernel_rfl
 i212 := by kernel_rfl
 i232 := by kernel_rfl
 i233 := by kernel_rfl
 m15 := by kernel_rfl
 m16 := by kernel_rfl
 m17 := by kernel_rfl
 m18 := by kernel_rfl
 m19 := by kernel_rfl
 c0 := by kernel_rfl
 c2 := by kernel_rfl
 c3 := by kernel_rfl
 c4 := by kernel_rfl
 c5 := by kernel_rfl
 c9 := by kernel_rfl
 c20 := by kernel_rfl
 c21 := by kernel_rfl
 c37 := by kernel_rfl
 c46 := by kernel_rfl
 c51 := by kernel_rfl
 c53 := by kernel_rfl
 c75 := by kernel_rfl
 c76 := by kernel_rfl
 c80 := by kernel_rfl
 c85 := by kernel_rfl
 c127 := by kernel_rfl
 c143 := by kernel_rfl
 c145 := by kernel_rfl
 c167 := by kernel_rfl
 c168 := by kernel_rfl
 c171 := by kernel_rfl
 c173 := by kernel_rfl
 c175 := by kernel_rfl
 c210 := by kernel_rfl
 c212 := by kernel_rfl
 c213 := by kernel_rfl
 c232 := by kernel_rfl
 c233 := by kernel_rfl }
open Go.RowKit in
theorem Tryz.strconv_Atoi_ok (s : ByteArray) (hmax : s.size ≤ 9223372036854775806) (v : Int) (h : Lib.atoiAll s.data.toList = .ok v) (w : World) :
  Calls Tryz.prog 104 #[.string s] w fun e w' => e = .returned (.tuple #[.int .i64 v, .nilIface]) ∧ (w' = w ∨ ∃ t, w' = Lib.bytesWorld w 5 t) := Any.strconv_Atoi_ok Tryz.laysC172 s hmax v h w
open Go.RowKit in
theorem Tryz.strconv_Atoi_other (s : ByteArray) (hlim : s.size ≤ 281474976710656) (h1 : ∀ v, Lib.atoiAll s.data.toList ≠ .ok v) (h2 : Lib.atoiAll s.data.toList ≠ .range) (ev : Value) (w : World) (hv : w.cell? ⟨2, 0, none⟩ = some ev) (hev : ev = .nilIface ∨ ∃ te pe, ev = .iface te pe) :
  Calls Tryz.prog 104 #[.string s] w fun e w' => ∃ N, e = .returned (.tuple #[.int .i64 (0), .iface 170 (.pointer (some ⟨N, 0, none⟩))]) ∧ w.heap.size ≤ N ∧ w'.heap[N]? = some (.cells #[.string ⟨#[65, 116, 111, 105]⟩, .string s, ev] 177 (0, 0)) ∧ Below w.heap.size w w' := by
 cases e : Lib.atoiAll s.data.toList with
 | ok v => exact absurd e (h1 v)
 | range => exact absurd e h2
 | _ => exact Any.strconv_Atoi_syntax Tryz.laysC172 s hlim e ev w hv hev
open Go.RowKit in
theorem Tryz.strconv_Atoi_range (s : ByteArray) (hlim : s.size ≤ 281474976710656) (h : Lib.atoiAll s.data.toList = .range) (ev : Value) (w : World) (hv : w.cell? ⟨3, 0, none⟩ = some ev) (hev : ev = .nilIface ∨ ∃ te pe, ev = .iface te pe) :
  Calls Tryz.prog 104 #[.string s] w fun e w' => ∃ N, e = .returned (.tuple #[.int .i64 (Lib.atoiSat s.data.toList), .iface 170 (.pointer (some ⟨N, 0, none⟩))]) ∧ w.heap.size ≤ N ∧ w'.heap[N]? = some (.cells #[.string ⟨#[65, 116, 111, 105]⟩, .string s, ev] 177 (0, 0)) ∧ Below w.heap.size w w' := Any.strconv_Atoi_range Tryz.laysC172 s hlim h ev w hv hev
end Go.Proofs
namespace Go.Abs
open Go.Proofs
set_option autoImplicit false
set_option linter.all false
set_option maxRecDepth 100000
set_option maxHeartbeats 40000000
structure Kept (w w' : World) : Prop where
 heap : ∀ (b : Nat) (o : Obj), w.heap[b]? = some o → w'.heap[b]? = some o
 os : w'.os = w.os
 out : w'.output = w.output
 tape : w'.tape = w.tape
theorem Rel.kept {G : Gh} {H : AS} {w w' : World} (h : Rel G H w) (k : Kept w w') : Rel G H w' where
 next := h.next
 ro := fun b c o e => k.heap _ _ (h.ro b c o e)
 box := fun id rows e => by
  obtain ⟨b, sz, cap, vs, elem, fz, h1, h2, h3⟩ := h.box id rows e
  exact ⟨b, sz, cap, vs, elem, fz, h1, k.heap _ _ h2, h3⟩
 inj := h.inj
 mp := fun id es e => by
  obtain ⟨b, ents, clock, h1, h2, h3⟩ := h.mp id es e
  exact ⟨b, ents, clock, h1, k.heap _ _ h2, h3⟩
 minj := h.minj
 vmax := h.vmax
 dom := h.dom
 mdom := h.mdom
 os := k.os.trans h.os
 out := k.out.trans h.out
 tape := k.tape.trans h.tape
 base := h.base
theorem Kept.below {w w' : World} (h : RowKit.Below w.heap.size w w') : Kept w w' :=
 ⟨fun b o e => by rw [h.block b (by rw [Array.getElem?_eq_some_iff] at e; exact e.1)]; exact e, h.os, h.output, h.tape⟩
theorem Kept.refl (w : World) : Kept w w := ⟨fun _ _ e => e, rfl, rfl, rfl⟩
theorem Kept.grow (w : World) (n : Nat) (os : Array Obj) : Kept w (Sort.grow (w.drewN n) os) :=
 ⟨fun b o e => by
  show (w.heap ++ os)[b]? = _
  rw [Array.getElem?_append_left (by rw [Array.getElem?_eq_some_iff] at e; exact e.1)]; exact e, rfl, rfl, rfl⟩
theorem Kept.bytes (w : World) (e : TypeId) (s : ByteArray) : Kept w (Lib.bytesWorld w e s) := by
 refine ⟨fun b o h => ?_, rfl, rfl, rfl⟩
 have hb : b < w.heap.size := by rw [Array.getElem?_eq_some_iff] at h; exact h.1
 unfold Lib.bytesWorld World.freeze
 simp only [World.drew, World.alloc, show ((1 : Nat) = 0) = False by simp, if_false]
 rw [Array.getElem?_modify, if_neg (by omega), Array.getElem?_push, if_neg (by omega)]
 exact h
theorem ACalls.of_kept {P : Program} {H : AS} {f : FuncId} {fn : Func} {vs : List Value} {q : PV} (hf : P.funcs[f]? = some fn) (hb : fn.body.isSome = true) (hname : (fn.name == "runtime.NumGoroutine") = false)
  (h : ∀ (G : Gh) (w : World), Rel G H w → Calls P f vs.toArray w fun e w' => ∃ v, e = .returned v ∧ Rep G q v ∧ Kept w w') : ACalls P f (vs.map .val) H fun r H' => r = q ∧ H' = H := by
 refine .inl ⟨⟨fn, hf, hb, hname⟩, fun G w us hr hall => ?_⟩
 have e : us = vs := by
  have key : ∀ (vs us : List Value), RepAll G (vs.map .val) us → us = vs := by
   intro vs
   induction vs with
   | nil => intro us h; cases us with
    | nil => rfl
    | cons => exact h.elim
   | cons v vs ih => intro us h; cases us with
    | nil => exact h.elim
    | cons u us => rw [rep_val h.1, ih us h.2]
  exact key vs us hall
 subst e
 refine (h G w hr).mono ?_
 rintro e w' ⟨v, rfl, hv, hk⟩
 exact ⟨v, G, q, H, rfl, .refl G, hr.kept hk, hv, rfl, rfl⟩
theorem Rel.heap0 {G : Gh} {H : AS} {w : World} (h : Rel G H w) {b : Nat} {o : Obj} (e : G.w0.heap[b]? = some o) : w.heap[b]? = some o := by
 obtain ⟨c, hc⟩ := h.base.2 b o e
 exact h.ro _ _ _ hc
theorem Rel.tab {G : Gh} {H : AS} {w : World} (h : Rel G H w) : Lib.TabIs Tryz.prog w "internal/strconv.uint64pow10" .u64 Lib.pow10Tab := by
 obtain ⟨t, fz, e⟩ := h.base.1.1
 have hg : Tryz.prog.globalNamed "internal/strconv.uint64pow10" = some 4 := by kernel_rfl
 unfold Lib.TabIs World.var?
 rw [hg]
 simp [h.heap0 e]
theorem Rel.err {G : Gh} {H : AS} {w : World} (h : Rel G H w) {b : Nat} (e : errCell G.w0 b) : ∃ ev, w.cell? ⟨b, 0, none⟩ = some ev ∧ (ev = .nilIface ∨ ∃ te pe, ev = .iface te pe) := by
 obtain ⟨ev, cs, t, fz, h1, h2, h3⟩ := e
 exact ⟨ev, by simp [World.cell?, h.heap0 h1, h2], h3⟩
def indexB (s : ByteArray) (c : Int) : Int := Lib.indexByte s.data.toList c.toNat.toUInt8
theorem indexBIs (H : AS) (s : ByteArray) (c : Int) : ACalls Tryz.prog 103 [ps s, .val (.int .u8 c)] H fun q H' => q = pi (indexB s c) ∧ H' = H :=
 ACalls.of_plain (vs := [.string s, .int .u8 c]) Tryz.func103 (by kernel_rfl) (by kernel_rfl) fun w => Tryz.strings_IndexByte s c w
def atoiOk (s : ByteArray) : Bool := match Lib.atoiAll s.data.toList with
 | .ok _ => true
 | _ => false
def atoiN (s : ByteArray) : Int := match Lib.atoiAll s.data.toList with
 | .ok v => v
 | .range => Lib.atoiSat s.data.toList
 | _ => 0
theorem atoiN_lo (s : ByteArray) : -9223372036854775808 ≤ atoiN s := by
 unfold atoiN; split
 rename_i v h; exact (Lib.atoiAll_bounds h).1
 unfold Lib.atoiSat; split <;> omega
 omega
theorem atoiN_hi (s : ByteArray) : atoiN s ≤ 9223372036854775807 := by
 unfold atoiN; split
 rename_i v h; exact (Lib.atoiAll_bounds h).2
 unfold Lib.atoiSat; split <;> omega
 omega
theorem atoiIs (H : AS) (s : ByteArray) (hs : s.size ≤ 281474976710656) (hk : atoiOk s = true) : ACalls Tryz.prog 104 [ps s] H fun q H' => q = .tuple [pi (atoiN s), .val .nilIface] ∧ H' = H :=
 ACalls.of_kept (vs := [.string s]) Tryz.func104 (by kernel_rfl) (by kernel_rfl) fun G w hr => by
  cases e : Lib.atoiAll s.data.toList with
  | ok v =>
   refine (Tryz.strconv_Atoi_ok s (by omega) v e w).mono ?_
   rintro x w' ⟨rfl, hw⟩
   refine ⟨_, rfl, ?_, ?_⟩
   ·rw [show atoiN s = v by unfold atoiN; rw [e]]
    exact .tuple rfl (fun j p u hp hu => by
     match j with
     | 0 => simp at hp hu; subst hp; subst hu; exact .val _
     | 1 => simp at hp hu; subst hp; subst hu; exact .val _
     | j + 2 => simp at hp)
   ·rcases hw with rfl | ⟨t, rfl⟩
    ·exact .refl _
    ·exact .bytes _ _ _
  | range => simp [atoiOk, e] at hk
  | _ => simp [atoiOk, e] at hk
theorem atoiNo (H : AS) (s : ByteArray) (hs : s.size ≤ 281474976710656) (hk : ¬ atoiOk s = true) : ACalls Tryz.prog 104 [ps s] H fun q H' => q = .tuple [pi (atoiN s), .iface 170 .junk] ∧ H' = H :=
 ACalls.of_kept (vs := [.string s]) Tryz.func104 (by kernel_rfl) (by kernel_rfl) fun G w hr => by
  cases e : Lib.atoiAll s.data.toList with
  | ok v => simp [atoiOk, e] at hk
  | range =>
   obtain ⟨ev, h1, h2⟩ := hr.err hr.base.1.2.2
   refine (Tryz.strconv_Atoi_range s hs e ev w h1 h2).mono ?_
   rintro x w' ⟨N, rfl, -, -, hw⟩
   refine ⟨_, rfl, ?_, .below hw⟩
   rw [show atoiN s = Lib.atoiSat s.data.toList by unfold atoiN; rw [e]]
   exact .tuple rfl (fun j p u hp hu => by
    match j with
    | 0 => simp at hp hu; subst hp; subst hu; exact .val _
    | 1 => simp at hp hu; subst hp; subst hu; exact .iface (.junk _)
    | j + 2 => simp at hp)
  | _ =>
   obtain ⟨ev, h1, h2⟩ := hr.err hr.base.1.2.1
   refine (Tryz.strconv_Atoi_other s hs (fun v h => by rw [e] at h; cases h) (fun h => by rw [e] at h; cases h) ev w h1 h2).mono ?_
   rintro x w' ⟨N, rfl, -, -, hw⟩
   refine ⟨_, rfl, ?_, .below hw⟩
   rw [show atoiN s = 0 by unfold atoiN; rw [e]]
   exact .tuple rfl (fun j p u hp hu => by
    match j with
    | 0 => simp at hp hu; subst hp; subst hu; exact .val _
    | 1 => simp at hp hu; subst hp; subst hu; exact .iface (.junk _)
    | j + 2 => simp at hp)
def itoaS (n : Int) : ByteArray := ⟨(Lib.itoa n).toArray⟩
theorem itoaIs (H : AS) (n : Int) (h0 : -9223372036854775808 ≤ n) (h1 : n ≤ 9223372036854775807) : ACalls Tryz.prog 105 [pi n] H fun q H' => q = ps (itoaS n) ∧ H' = H :=
 ACalls.of_kept (vs := [.int .i64 n]) Tryz.func105 (by kernel_rfl) (by kernel_rfl) fun G w hr => by
  refine (Tryz.strconv_Itoa n h0 h1 w hr.tab).mono ?_
  rintro x w' ⟨rfl, k, os, rfl⟩
  exact ⟨_, rfl, .val _, .grow _ _ _⟩
section
def tl3 (s : ByteArray) : ByteArray := s.extract 3 s.size
def dl2 (s : ByteArray) : ByteArray := s.extract 0 (s.size - 2)
theorem tl3_size (s : ByteArray) : (tl3 s).size = s.size - 3 := by unfold tl3; simp
theorem dl2_size (s : ByteArray) : (dl2 s).size = s.size - 2 := by unfold dl2; simp
theorem cut9 (s : ByteArray) (h : (3 : Int) ≤ s.size) : aCutOp Tryz.prog 9 (.val (.string s)) (some (pi 3)) none = some (ps (tl3 s)) := by
 have hu : Tryz.prog.underlying 9 = some .string := by kernel_rfl
 have h3 : 3 ≤ s.size := by omega
 simp [aCutOp, cutOk, hu, aBound, acut, tl3]; omega
theorem cut9' (s : ByteArray) (h : (2 : Int) ≤ s.size) : aCutOp Tryz.prog 9 (.val (.string s)) none (some (pi ((s.size : Int) - 2))) = some (ps (dl2 s)) := by
 have hu : Tryz.prog.underlying 9 = some .string := by kernel_rfl
 have e : ((s.size : Int) - 2).toNat = s.size - 2 := by omega
 have h1 : (2 : Int) ≤ s.size := h
 simp [aCutOp, cutOk, hu, aBound, acut, dl2, e]; omega
theorem indexByte_lt : ∀ (l : List UInt8) (c : UInt8), Lib.indexByte l c < l.length
 | [], c => by simp [Lib.indexByte]
 | b :: r, c => by
  have := indexByte_lt r c
  unfold Lib.indexByte
  split
  ·rw [List.length_cons]; omega
  ·split <;> rw [List.length_cons] <;> omega
def xB (s : ByteArray) : Int := indexB ⟨#[88, 66, 87, 68, 76]⟩ (byteAt s 2)
theorem xB_lt (s : ByteArray) : xB s < 5 := indexByte_lt _ _
theorem owes_add {P : Program} {H : AS} {fn : Func} {r1 r2 r3 q : PV} {F' : AF} {H' : AS} {x : Exit} (hx : x = .normal ∨ x = .ret) (hwf : WF H) (hr : aResults P F' H' fn.results.toList = some [r1, r2, r3]) (hq : ∃ (a b : Int) (c : Bool), r1 = pi a ∧ r2 = pi b ∧ r3 = pb c ∧ q = .tuple [pi a, pi b, pb c])
  (hext : H.Ext H') : Owes P fn H (fun r H'' => r = q ∧ H'' = H) x F' H' := by
 obtain ⟨a, b, c, rfl, rfl, rfl, rfl⟩ := hq
 refine owes_pure hx hwf hr ?_ ?_ ?_ <;> simp [frzVs, frzV_one (p := pi _) ⟨by simp, by simp⟩, frzV_one (p := pb _) ⟨by simp, by simp⟩, packed]
 exact hext
attribute [local simp ↓] AF.ev_nilIface
attribute [local simp] frame0 nx2 nx3 nx2' bump_setBox setBox_setBox beq_bytes wrap_nn int_beq int_bne DVal.row DOp.row DLook.row DFlat.row DType.row DNeed.row DCell.row eq42 idx9 aNilTest abuildSlice frzR frzV frzL frz aindex aLen aBin aBinV partOf aExtract aIndexAddr aload AS.Ext.refl AS.Ext.bump AS.Ext.setBox AS.Ext.kill AS.Ext.setMap
def addrR (s : ByteArray) : Int × Int × Bool := if (s.size : Int) < 4 then (0, 0, false) else if (byteAt s 0) = 37 then (if (indexB (⟨#[77, 73, 81]⟩) (byteAt s 1)) < 0 then (0, 0, false) else if (xB s) < 0 then (0, 0, false) else if (xB s) = 0 then (if ((tl3 s).size : Int) < 3 then (0, 0, false) else if (byteAt (tl3 s) (((tl3 s).size : Int) - 2)) = 46 then (if (byteAt (tl3 s) (((tl3 s).size : Int) - 1)) < 48 then (0, 0, false) else if 55 < (byteAt (tl3 s) (((tl3 s).size : Int) - 1)) then (0, 0, false) else if atoiOk (dl2 (tl3 s)) = true then (if (atoiN (dl2 (tl3 s))) < 0 then (0, 0, false) else if 4 < ((dl2 (tl3 s)).size : Int) then (0, 0, false) else if (itoaS (atoiN (dl2 (tl3 s)))) = (dl2 (tl3 s)) then (1, (indexB (⟨#[77, 73, 81]⟩) (byteAt s 1)), true) else (0, 0, false)) else (0, 0, false)) else (0, 0, false)) else if atoiOk (tl3 s) = true then (if (atoiN (tl3 s)) < 0 then (0, 0, false) else if 4 < ((tl3 s).size : Int) then (0, 0, false) else if (itoaS (atoiN (tl3 s))) = (tl3 s) then (if (xB s) = 1 then (8, (indexB (⟨#[77, 73, 81]⟩) (byteAt s 1)), true) else if (xB s) = 2 then (16, (indexB (⟨#[77, 73, 81]⟩) (byteAt s 1)), true) else if (xB s) = 3 then (32, (indexB (⟨#[77, 73, 81]⟩) (byteAt s 1)), true) else if (xB s) = 4 then (64, (indexB (⟨#[77, 73, 81]⟩) (byteAt s 1)), true) else (0, 0, false)) else (0, 0, false)) else (0, 0, false)) else (0, 0, false)
theorem isAddrIs (H : AS)  (s : ByteArray) (hs : s.size ≤ 281474976710656) : ACalls Tryz.prog 81 [ps s] H fun q H' => q = .tuple [pi (addrR s).1, pi (addrR s).2.1, pb (addrR s).2.2] ∧ H' = H := by
 refine ACalls_intro Tryz.func81 rfl (by kernel_rfl) (by simp) fun hwf hbel => ?_
 refine T_sr fun K0 hK0 => ?_
 simp
 apply hK0
 refine T_seqk fun K1 hK1 => ?_
 refine T_seqk fun K2 hK2 => ?_
 by_cases h0 : (s.size : Int) < 4
 refine T_rg ?_
 have hz3 := tl3_size s
 have hz2 := dl2_size (tl3 s)
 simp [h0]
 apply hK2
 refine T_condT (by first | rfl | simp [h0]) ?_
 refine T_sr fun K3 hK3 => ?_
 have hz3 := tl3_size s
 have hz2 := dl2_size (tl3 s)
 simp [h0]
 apply hK3
 refine T_ret ?_
 try simp only [kr]
 exact owes_add (.inr rfl) hwf rfl (by rw [show addrR s = (0, 0, false) from by simp only [addrR, if_pos h0]] <;> simp [h0]) (by simp (maxDischargeDepth := 20))
 refine T_rg ?_
 have hz3 := tl3_size s
 have hz2 := dl2_size (tl3 s)
 simp [h0, idx9 s 0 (by omega) (by omega), idx9 s 1 (by omega) (by omega), idx9 s 2 (by omega) (by omega), cut9 s (by omega)]
 apply hK2
 by_cases h1 : (byteAt s 0) = 37
 refine T_condF (by first | rfl | simp [h0, h1]) ?_
 refine T_skip ?_
 try simp only [kn]
 apply hK1
 refine T_sr fun K4 hK4 => ?_
 have hz3 := tl3_size s
 have hz2 := dl2_size (tl3 s)
 simp [h0, h1, idx9 s 0 (by omega) (by omega), idx9 s 1 (by omega) (by omega), idx9 s 2 (by omega) (by omega), cut9 s (by omega)]
 refine callK.of (indexBIs _ (⟨#[77, 73, 81]⟩) (byteAt s 1)) ?_
 rintro _ Hz ⟨rfl, hz⟩
 subst Hz
 simp [h0, h1, idx9 s 0 (by omega) (by omega), idx9 s 1 (by omega) (by omega), idx9 s 2 (by omega) (by omega), cut9 s (by omega)]
 apply hK4
 refine T_sr fun K5 hK5 => ?_
 have hz3 := tl3_size s
 have hz2 := dl2_size (tl3 s)
 simp [h0, h1, idx9 s 0 (by omega) (by omega), idx9 s 1 (by omega) (by omega), idx9 s 2 (by omega) (by omega), cut9 s (by omega)]
 refine callK.of (indexBIs _ (⟨#[88, 66, 87, 68, 76]⟩) (byteAt s 2)) ?_
 rintro _ Hz ⟨rfl, hz⟩
 subst Hz
 simp only [show indexB ⟨#[88, 66, 87, 68, 76]⟩ (byteAt s 2) = xB s from rfl]
 simp [h0, h1, idx9 s 0 (by omega) (by omega), idx9 s 1 (by omega) (by omega), idx9 s 2 (by omega) (by omega), cut9 s (by omega)]
 apply hK5
 refine T_seqk fun K6 hK6 => ?_
 refine T_seqk fun K7 hK7 => ?_
 by_cases h2 : (indexB (⟨#[77, 73, 81]⟩) (byteAt s 1)) < 0
 refine T_rg ?_
 have hz3 := tl3_size s
 have hz2 := dl2_size (tl3 s)
 simp [h0, h1, h2, idx9 s 0 (by omega) (by omega), idx9 s 1 (by omega) (by omega), idx9 s 2 (by omega) (by omega), cut9 s (by omega)]
 apply hK7
 refine T_condT (by first | rfl | simp [h0, h1, h2]) ?_
 refine T_sr fun K8 hK8 => ?_
 have hz3 := tl3_size s
 have hz2 := dl2_size (tl3 s)
 simp [h0, h1, h2, idx9 s 0 (by omega) (by omega), idx9 s 1 (by omega) (by omega), idx9 s 2 (by omega) (by omega), cut9 s (by omega)]
 apply hK8
 refine T_ret ?_
 try simp only [kr]
 exact owes_add (.inr rfl) hwf rfl (by rw [show addrR s = (0, 0, false) from by simp only [addrR, if_neg h0, if_pos h1, if_pos h2]] <;> simp [h0, h1, h2]) (by simp (maxDischargeDepth := 20))
 refine T_rg ?_
 have hz3 := tl3_size s
 have hz2 := dl2_size (tl3 s)
 simp [h0, h1, h2, idx9 s 0 (by omega) (by omega), idx9 s 1 (by omega) (by omega), idx9 s 2 (by omega) (by omega), cut9 s (by omega)]
 apply hK7
 by_cases h3 : (xB s) < 0
 refine T_condT (by first | rfl | simp [h0, h1, h2, h3]) ?_
 refine T_sr fun K9 hK9 => ?_
 have hz3 := tl3_size s
 have hz2 := dl2_size (tl3 s)
 simp [h0, h1, h2, h3, idx9 s 0 (by omega) (by omega), idx9 s 1 (by omega) (by omega), idx9 s 2 (by omega) (by omega), cut9 s (by omega)]
 apply hK9
 refine T_ret ?_
 try simp only [kr]
 exact owes_add (.inr rfl) hwf rfl (by rw [show addrR s = (0, 0, false) from by simp only [addrR, if_neg h0, if_pos h1, if_neg h2, if_pos h3]] <;> simp [h0, h1, h2, h3]) (by simp (maxDischargeDepth := 20))
 refine T_condF (by first | rfl | simp [h0, h1, h2, h3]) ?_
 refine T_skip ?_
 try simp only [kn]
 apply hK6
 refine T_sr fun K10 hK10 => ?_
 have hz3 := tl3_size s
 have hz2 := dl2_size (tl3 s)
 simp [h0, h1, h2, h3, idx9 s 0 (by omega) (by omega), idx9 s 1 (by omega) (by omega), idx9 s 2 (by omega) (by omega), cut9 s (by omega)]
 apply hK10
 refine T_seqk fun K11 hK11 => ?_
 refine T_sr fun K12 hK12 => ?_
 have hz3 := tl3_size s
 have hz2 := dl2_size (tl3 s)
 simp [h0, h1, h2, h3, idx9 s 0 (by omega) (by omega), idx9 s 1 (by omega) (by omega), idx9 s 2 (by omega) (by omega), cut9 s (by omega)]
 apply hK12
 by_cases h4 : (xB s) = 0
 refine T_condT (by first | rfl | simp [h0, h1, h2, h3, h4]) ?_
 refine T_sr fun K13 hK13 => ?_
 have hz3 := tl3_size s
 have hz2 := dl2_size (tl3 s)
 simp [h0, h1, h2, h3, h4, idx9 s 0 (by omega) (by omega), idx9 s 1 (by omega) (by omega), idx9 s 2 (by omega) (by omega), cut9 s (by omega)]
 apply hK13
 refine T_seqk fun K14 hK14 => ?_
 refine T_seqk fun K15 hK15 => ?_
 by_cases h5 : ((tl3 s).size : Int) < 3
 refine T_rg ?_
 have hz3 := tl3_size s
 have hz2 := dl2_size (tl3 s)
 simp [h0, h1, h2, h3, h4, h5, idx9 s 0 (by omega) (by omega), idx9 s 1 (by omega) (by omega), idx9 s 2 (by omega) (by omega), cut9 s (by omega)]
 apply hK15
 refine T_condT (by first | rfl | simp [h0, h1, h2, h3, h4, h5]) ?_
 refine T_sr fun K16 hK16 => ?_
 have hz3 := tl3_size s
 have hz2 := dl2_size (tl3 s)
 simp [h0, h1, h2, h3, h4, h5, idx9 s 0 (by omega) (by omega), idx9 s 1 (by omega) (by omega), idx9 s 2 (by omega) (by omega), cut9 s (by omega)]
 apply hK16
 refine T_ret ?_
 try simp only [kr]
 exact owes_add (.inr rfl) hwf rfl (by rw [show addrR s = (0, 0, false) from by simp only [addrR, if_neg h0, if_pos h1, if_neg h2, if_neg h3, if_pos h4, if_pos h5]] <;> simp [h0, h1, h2, h3, h4, h5]) (by simp (maxDischargeDepth := 20))
 by_cases h6 : (byteAt (tl3 s) (((tl3 s).size : Int) - 2)) = 46
 by_cases h7 : (byteAt (tl3 s) (((tl3 s).size : Int) - 1)) < 48
 refine T_rg ?_
 have hz3 := tl3_size s
 have hz2 := dl2_size (tl3 s)
 simp [h0, h1, h2, h3, h4, h5, h6, h7, idx9 s 0 (by omega) (by omega), idx9 s 1 (by omega) (by omega), idx9 s 2 (by omega) (by omega), cut9 s (by omega), idx9 (tl3 s) ((tl3 s).size - 2) (by omega) (by omega), idx9 (tl3 s) ((tl3 s).size - 1) (by omega) (by omega), cut9' (tl3 s) (by omega), wrap_i64 (show -9223372036854775808 ≤ ((tl3 s).size : Int) - 2 by omega) (show ((tl3 s).size : Int) - 2 < 9223372036854775808 by omega), wrap_i64 (show -9223372036854775808 ≤ ((tl3 s).size : Int) - 1 by omega) (show ((tl3 s).size : Int) - 1 < 9223372036854775808 by omega)]
 apply hK15
 refine T_condT (by first | rfl | simp [h0, h1, h2, h3, h4, h5, h6, h7]) ?_
 refine T_sr fun K17 hK17 => ?_
 have hz3 := tl3_size s
 have hz2 := dl2_size (tl3 s)
 simp [h0, h1, h2, h3, h4, h5, h6, h7, idx9 s 0 (by omega) (by omega), idx9 s 1 (by omega) (by omega), idx9 s 2 (by omega) (by omega), cut9 s (by omega), idx9 (tl3 s) ((tl3 s).size - 2) (by omega) (by omega), idx9 (tl3 s) ((tl3 s).size - 1) (by omega) (by omega), cut9' (tl3 s) (by omega), wrap_i64 (show -9223372036854775808 ≤ ((tl3 s).size : Int) - 2 by omega) (show ((tl3 s).size : Int) - 2 < 9223372036854775808 by omega), wrap_i64 (show -9223372036854775808 ≤ ((tl3 s).size : Int) - 1 by omega) (show ((tl3 s).size : Int) - 1 < 9223372036854775808 by omega)]
 apply hK17
 refine T_ret ?_
 try simp only [kr]
 exact owes_add (.inr rfl) hwf rfl (by rw [show addrR s = (0, 0, false) from by simp only [addrR, if_neg h0, if_pos h1, if_neg h2, if_neg h3, if_pos h4, if_neg h5, if_pos h6, if_pos h7]] <;> simp [h0, h1, h2, h3, h4, h5, h6, h7]) (by simp (maxDischargeDepth := 20))
 refine T_rg ?_
 have hz3 := tl3_size s
 have hz2 := dl2_size (tl3 s)
 simp [h0, h1, h2, h3, h4, h5, h6, h7, idx9 s 0 (by omega) (by omega), idx9 s 1 (by omega) (by omega), idx9 s 2 (by omega) (by omega), cut9 s (by omega), idx9 (tl3 s) ((tl3 s).size - 2) (by omega) (by omega), idx9 (tl3 s) ((tl3 s).size - 1) (by omega) (by omega), cut9' (tl3 s) (by omega), wrap_i64 (show -9223372036854775808 ≤ ((tl3 s).size : Int) - 2 by omega) (show ((tl3 s).size : Int) - 2 < 9223372036854775808 by omega), wrap_i64 (show -9223372036854775808 ≤ ((tl3 s).size : Int) - 1 by omega) (show ((tl3 s).size : Int) - 1 < 9223372036854775808 by omega)]
 apply hK15
 by_cases h8 : 55 < (byteAt (tl3 s) (((tl3 s).size : Int) - 1))
 refine T_condT (by first | rfl | simp [h0, h1, h2, h3, h4, h5, h6, h7, h8]) ?_
 refine T_sr fun K18 hK18 => ?_
 have hz3 := tl3_size s
 have hz2 := dl2_size (tl3 s)
 simp [h0, h1, h2, h3, h4, h5, h6, h7, h8, idx9 s 0 (by omega) (by omega), idx9 s 1 (by omega) (by omega), idx9 s 2 (by omega) (by omega), cut9 s (by omega), idx9 (tl3 s) ((tl3 s).size - 2) (by omega) (by omega), idx9 (tl3 s) ((tl3 s).size - 1) (by omega) (by omega), cut9' (tl3 s) (by omega), wrap_i64 (show -9223372036854775808 ≤ ((tl3 s).size : Int) - 2 by omega) (show ((tl3 s).size : Int) - 2 < 9223372036854775808 by omega), wrap_i64 (show -9223372036854775808 ≤ ((tl3 s).size : Int) - 1 by omega) (show ((tl3 s).size : Int) - 1 < 9223372036854775808 by omega)]
 apply hK18
 refine T_ret ?_
 try simp only [kr]
 exact owes_add (.inr rfl) hwf rfl (by rw [show addrR s = (0, 0, false) from by simp only [addrR, if_neg h0, if_pos h1, if_neg h2, if_neg h3, if_pos h4, if_neg h5, if_pos h6, if_neg h7, if_pos h8]] <;> simp [h0, h1, h2, h3, h4, h5, h6, h7, h8]) (by simp (maxDischargeDepth := 20))
 refine T_condF (by first | rfl | simp [h0, h1, h2, h3, h4, h5, h6, h7, h8]) ?_
 refine T_skip ?_
 try simp only [kn]
 apply hK14
 refine T_rg ?_
 have hz3 := tl3_size s
 have hz2 := dl2_size (tl3 s)
 simp [h0, h1, h2, h3, h4, h5, h6, h7, h8, idx9 s 0 (by omega) (by omega), idx9 s 1 (by omega) (by omega), idx9 s 2 (by omega) (by omega), cut9 s (by omega), idx9 (tl3 s) ((tl3 s).size - 2) (by omega) (by omega), idx9 (tl3 s) ((tl3 s).size - 1) (by omega) (by omega), cut9' (tl3 s) (by omega), wrap_i64 (show -9223372036854775808 ≤ ((tl3 s).size : Int) - 2 by omega) (show ((tl3 s).size : Int) - 2 < 9223372036854775808 by omega), wrap_i64 (show -9223372036854775808 ≤ ((tl3 s).size : Int) - 1 by omega) (show ((tl3 s).size : Int) - 1 < 9223372036854775808 by omega)]
 apply hK11
 refine T_seqk fun K19 hK19 => ?_
 by_cases h9 : atoiOk (dl2 (tl3 s)) = true
 refine T_rg ?_
 have hz3 := tl3_size s
 have hz2 := dl2_size (tl3 s)
 simp [h0, h1, h2, h3, h4, h5, h6, h7, h8, h9, idx9 s 0 (by omega) (by omega), idx9 s 1 (by omega) (by omega), idx9 s 2 (by omega) (by omega), cut9 s (by omega), idx9 (tl3 s) ((tl3 s).size - 2) (by omega) (by omega), idx9 (tl3 s) ((tl3 s).size - 1) (by omega) (by omega), cut9' (tl3 s) (by omega), wrap_i64 (show -9223372036854775808 ≤ ((tl3 s).size : Int) - 2 by omega) (show ((tl3 s).size : Int) - 2 < 9223372036854775808 by omega), wrap_i64 (show -9223372036854775808 ≤ ((tl3 s).size : Int) - 1 by omega) (show ((tl3 s).size : Int) - 1 < 9223372036854775808 by omega)]
 refine callK.of (atoiIs _ (dl2 (tl3 s)) (by have := tl3_size s; have := dl2_size (tl3 s); omega) h9) ?_
 rintro _ Hz ⟨rfl, hz⟩
 subst Hz
 simp [h0, h1, h2, h3, h4, h5, h6, h7, h8, h9, idx9 s 0 (by omega) (by omega), idx9 s 1 (by omega) (by omega), idx9 s 2 (by omega) (by omega), cut9 s (by omega), idx9 (tl3 s) ((tl3 s).size - 2) (by omega) (by omega), idx9 (tl3 s) ((tl3 s).size - 1) (by omega) (by omega), cut9' (tl3 s) (by omega), wrap_i64 (show -9223372036854775808 ≤ ((tl3 s).size : Int) - 2 by omega) (show ((tl3 s).size : Int) - 2 < 9223372036854775808 by omega), wrap_i64 (show -9223372036854775808 ≤ ((tl3 s).size : Int) - 1 by omega) (show ((tl3 s).size : Int) - 1 < 9223372036854775808 by omega)]
 apply hK19
 refine T_seqk fun K20 hK20 => ?_
 refine T_seqk fun K21 hK21 => ?_
 by_cases h10 : (atoiN (dl2 (tl3 s))) < 0
 refine T_rg ?_
 have hz3 := tl3_size s
 have hz2 := dl2_size (tl3 s)
 simp [h0, h1, h2, h3, h4, h5, h6, h7, h8, h9, h10, idx9 s 0 (by omega) (by omega), idx9 s 1 (by omega) (by omega), idx9 s 2 (by omega) (by omega), cut9 s (by omega), idx9 (tl3 s) ((tl3 s).size - 2) (by omega) (by omega), idx9 (tl3 s) ((tl3 s).size - 1) (by omega) (by omega), cut9' (tl3 s) (by omega), wrap_i64 (show -9223372036854775808 ≤ ((tl3 s).size : Int) - 2 by omega) (show ((tl3 s).size : Int) - 2 < 9223372036854775808 by omega), wrap_i64 (show -9223372036854775808 ≤ ((tl3 s).size : Int) - 1 by omega) (show ((tl3 s).size : Int) - 1 < 9223372036854775808 by omega)]
 apply hK21
 refine T_condT (by first | rfl | simp [h0, h1, h2, h3, h4, h5, h6, h7, h8, h9, h10]) ?_
 refine T_sr fun K22 hK22 => ?_
 have hz3 := tl3_size s
 have hz2 := dl2_size (tl3 s)
 simp [h0, h1, h2, h3, h4, h5, h6, h7, h8, h9, h10, idx9 s 0 (by omega) (by omega), idx9 s 1 (by omega) (by omega), idx9 s 2 (by omega) (by omega), cut9 s (by omega), idx9 (tl3 s) ((tl3 s).size - 2) (by omega) (by omega), idx9 (tl3 s) ((tl3 s).size - 1) (by omega) (by omega), cut9' (tl3 s) (by omega), wrap_i64 (show -9223372036854775808 ≤ ((tl3 s).size : Int) - 2 by omega) (show ((tl3 s).size : Int) - 2 < 9223372036854775808 by omega), wrap_i64 (show -9223372036854775808 ≤ ((tl3 s).size : Int) - 1 by omega) (show ((tl3 s).size : Int) - 1 < 9223372036854775808 by omega)]
 apply hK22
 refine T_ret ?_
 try simp only [kr]
 exact owes_add (.inr rfl) hwf rfl (by rw [show addrR s = (0, 0, false) from by simp only [addrR, if_neg h0, if_pos h1, if_neg h2, if_neg h3, if_pos h4, if_neg h5, if_pos h6, if_neg h7, if_neg h8, if_pos h9, if_pos h10]] <;> simp [h0, h1, h2, h3, h4, h5, h6, h7, h8, h9, h10]) (by simp (maxDischargeDepth := 20))
 by_cases h11 : 4 < ((dl2 (tl3 s)).size : Int)
 refine T_rg ?_
 have hz3 := tl3_size s
 have hz2 := dl2_size (tl3 s)
 simp [h0, h1, h2, h3, h4, h5, h6, h7, h8, h9, h10, h11, idx9 s 0 (by omega) (by omega), idx9 s 1 (by omega) (by omega), idx9 s 2 (by omega) (by omega), cut9 s (by omega), idx9 (tl3 s) ((tl3 s).size - 2) (by omega) (by omega), idx9 (tl3 s) ((tl3 s).size - 1) (by omega) (by omega), cut9' (tl3 s) (by omega), wrap_i64 (show -9223372036854775808 ≤ ((tl3 s).size : Int) - 2 by omega) (show ((tl3 s).size : Int) - 2 < 9223372036854775808 by omega), wrap_i64 (show -9223372036854775808 ≤ ((tl3 s).size : Int) - 1 by omega) (show ((tl3 s).size : Int) - 1 < 9223372036854775808 by omega)]
 apply hK21
 refine T_condT (by first | rfl | simp [h0, h1, h2, h3, h4, h5, h6, h7, h8, h9, h10, h11]) ?_
 refine T_sr fun K23 hK23 => ?_
 have hz3 := tl3_size s
 have hz2 := dl2_size (tl3 s)
 simp [h0, h1, h2, h3, h4, h5, h6, h7, h8, h9, h10, h11, idx9 s 0 (by omega) (by omega), idx9 s 1 (by omega) (by omega), idx9 s 2 (by omega) (by omega), cut9 s (by omega), idx9 (tl3 s) ((tl3 s).size - 2) (by omega) (by omega), idx9 (tl3 s) ((tl3 s).size - 1) (by omega) (by omega), cut9' (tl3 s) (by omega), wrap_i64 (show -9223372036854775808 ≤ ((tl3 s).size : Int) - 2 by omega) (show ((tl3 s).size : Int) - 2 < 9223372036854775808 by omega), wrap_i64 (show -9223372036854775808 ≤ ((tl3 s).size : Int) - 1 by omega) (show ((tl3 s).size : Int) - 1 < 9223372036854775808 by omega)]
 apply hK23
 refine T_ret ?_
 try simp only [kr]
 exact owes_add (.inr rfl) hwf rfl (by rw [show addrR s = (0, 0, false) from by simp only [addrR, if_neg h0, if_pos h1, if_neg h2, if_neg h3, if_pos h4, if_neg h5, if_pos h6, if_neg h7, if_neg h8, if_pos h9, if_neg h10, if_pos h11]] <;> simp [h0, h1, h2, h3, h4, h5, h6, h7, h8, h9, h10, h11]) (by simp (maxDischargeDepth := 20))
 refine T_rg ?_
 have hz3 := tl3_size s
 have hz2 := dl2_size (tl3 s)
 simp [h0, h1, h2, h3, h4, h5, h6, h7, h8, h9, h10, h11, idx9 s 0 (by omega) (by omega), idx9 s 1 (by omega) (by omega), idx9 s 2 (by omega) (by omega), cut9 s (by omega), idx9 (tl3 s) ((tl3 s).size - 2) (by omega) (by omega), idx9 (tl3 s) ((tl3 s).size - 1) (by omega) (by omega), cut9' (tl3 s) (by omega), wrap_i64 (show -9223372036854775808 ≤ ((tl3 s).size : Int) - 2 by omega) (show ((tl3 s).size : Int) - 2 < 9223372036854775808 by omega), wrap_i64 (show -9223372036854775808 ≤ ((tl3 s).size : Int) - 1 by omega) (show ((tl3 s).size : Int) - 1 < 9223372036854775808 by omega)]
 refine callK.of (itoaIs _ (atoiN (dl2 (tl3 s))) (atoiN_lo _) (atoiN_hi _)) ?_
 rintro _ Hz ⟨rfl, hz⟩
 subst Hz
 simp [h0, h1, h2, h3, h4, h5, h6, h7, h8, h9, h10, h11, idx9 s 0 (by omega) (by omega), idx9 s 1 (by omega) (by omega), idx9 s 2 (by omega) (by omega), cut9 s (by omega), idx9 (tl3 s) ((tl3 s).size - 2) (by omega) (by omega), idx9 (tl3 s) ((tl3 s).size - 1) (by omega) (by omega), cut9' (tl3 s) (by omega), wrap_i64 (show -9223372036854775808 ≤ ((tl3 s).size : Int) - 2 by omega) (show ((tl3 s).size : Int) - 2 < 9223372036854775808 by omega), wrap_i64 (show -9223372036854775808 ≤ ((tl3 s).size : Int) - 1 by omega) (show ((tl3 s).size : Int) - 1 < 9223372036854775808 by omega)]
 apply hK21
 by_cases h12 : (itoaS (atoiN (dl2 (tl3 s)))) = (dl2 (tl3 s))
 refine T_condF (by first | rfl | simp [h0, h1, h2, h3, h4, h5, h6, h7, h8, h9, h10, h11, h12]) ?_
 refine T_skip ?_
 try simp only [kn]
 apply hK20
 refine T_sr fun K24 hK24 => ?_
 have hz3 := tl3_size s
 have hz2 := dl2_size (tl3 s)
 simp [h0, h1, h2, h3, h4, h5, h6, h7, h8, h9, h10, h11, h12, idx9 s 0 (by omega) (by omega), idx9 s 1 (by omega) (by omega), idx9 s 2 (by omega) (by omega), cut9 s (by omega), idx9 (tl3 s) ((tl3 s).size - 2) (by omega) (by omega), idx9 (tl3 s) ((tl3 s).size - 1) (by omega) (by omega), cut9' (tl3 s) (by omega), wrap_i64 (show -9223372036854775808 ≤ ((tl3 s).size : Int) - 2 by omega) (show ((tl3 s).size : Int) - 2 < 9223372036854775808 by omega), wrap_i64 (show -9223372036854775808 ≤ ((tl3 s).size : Int) - 1 by omega) (show ((tl3 s).size : Int) - 1 < 9223372036854775808 by omega)]
 apply hK24
 refine T_ret ?_
 try simp only [kr]
 exact owes_add (.inr rfl) hwf rfl (by rw [show addrR s = (1, (indexB (⟨#[77, 73, 81]⟩) (byteAt s 1)), true) from by simp only [addrR, if_neg h0, if_pos h1, if_neg h2, if_neg h3, if_pos h4, if_neg h5, if_pos h6, if_neg h7, if_neg h8, if_pos h9, if_neg h10, if_neg h11, if_pos h12]] <;> simp [h0, h1, h2, h3, h4, h5, h6, h7, h8, h9, h10, h11, h12]) (by simp (maxDischargeDepth := 20))
 refine T_condT (by first | rfl | simp [h0, h1, h2, h3, h4, h5, h6, h7, h8, h9, h10, h11, h12]) ?_
 refine T_sr fun K25 hK25 => ?_
 have hz3 := tl3_size s
 have hz2 := dl2_size (tl3 s)
 simp [h0, h1, h2, h3, h4, h5, h6, h7, h8, h9, h10, h11, h12, idx9 s 0 (by omega) (by omega), idx9 s 1 (by omega) (by omega), idx9 s 2 (by omega) (by omega), cut9 s (by omega), idx9 (tl3 s) ((tl3 s).size - 2) (by omega) (by omega), idx9 (tl3 s) ((tl3 s).size - 1) (by omega) (by omega), cut9' (tl3 s) (by omega), wrap_i64 (show -9223372036854775808 ≤ ((tl3 s).size : Int) - 2 by omega) (show ((tl3 s).size : Int) - 2 < 9223372036854775808 by omega), wrap_i64 (show -9223372036854775808 ≤ ((tl3 s).size : Int) - 1 by omega) (show ((tl3 s).size : Int) - 1 < 9223372036854775808 by omega)]
 apply hK25
 refine T_ret ?_
 try simp only [kr]
 exact owes_add (.inr rfl) hwf rfl (by rw [show addrR s = (0, 0, false) from by simp only [addrR, if_neg h0, if_pos h1, if_neg h2, if_neg h3, if_pos h4, if_neg h5, if_pos h6, if_neg h7, if_neg h8, if_pos h9, if_neg h10, if_neg h11, if_neg h12]] <;> simp [h0, h1, h2, h3, h4, h5, h6, h7, h8, h9, h10, h11, h12]) (by simp (maxDischargeDepth := 20))
 refine T_rg ?_
 have hz3 := tl3_size s
 have hz2 := dl2_size (tl3 s)
 simp [h0, h1, h2, h3, h4, h5, h6, h7, h8, h9, idx9 s 0 (by omega) (by omega), idx9 s 1 (by omega) (by omega), idx9 s 2 (by omega) (by omega), cut9 s (by omega), idx9 (tl3 s) ((tl3 s).size - 2) (by omega) (by omega), idx9 (tl3 s) ((tl3 s).size - 1) (by omega) (by omega), cut9' (tl3 s) (by omega), wrap_i64 (show -9223372036854775808 ≤ ((tl3 s).size : Int) - 2 by omega) (show ((tl3 s).size : Int) - 2 < 9223372036854775808 by omega), wrap_i64 (show -9223372036854775808 ≤ ((tl3 s).size : Int) - 1 by omega) (show ((tl3 s).size : Int) - 1 < 9223372036854775808 by omega)]
 refine callK.of (atoiNo _ (dl2 (tl3 s)) (by have := tl3_size s; have := dl2_size (tl3 s); omega) h9) ?_
 rintro _ Hz ⟨rfl, hz⟩
 subst Hz
 simp [h0, h1, h2, h3, h4, h5, h6, h7, h8, h9, idx9 s 0 (by omega) (by omega), idx9 s 1 (by omega) (by omega), idx9 s 2 (by omega) (by omega), cut9 s (by omega), idx9 (tl3 s) ((tl3 s).size - 2) (by omega) (by omega), idx9 (tl3 s) ((tl3 s).size - 1) (by omega) (by omega), cut9' (tl3 s) (by omega), wrap_i64 (show -9223372036854775808 ≤ ((tl3 s).size : Int) - 2 by omega) (show ((tl3 s).size : Int) - 2 < 9223372036854775808 by omega), wrap_i64 (show -9223372036854775808 ≤ ((tl3 s).size : Int) - 1 by omega) (show ((tl3 s).size : Int) - 1 < 9223372036854775808 by omega)]
 apply hK19
 refine T_seqk fun K26 hK26 => ?_
 refine T_sr fun K27 hK27 => ?_
 have hz3 := tl3_size s
 have hz2 := dl2_size (tl3 s)
 simp [h0, h1, h2, h3, h4, h5, h6, h7, h8, h9, idx9 s 0 (by omega) (by omega), idx9 s 1 (by omega) (by omega), idx9 s 2 (by omega) (by omega), cut9 s (by omega), idx9 (tl3 s) ((tl3 s).size - 2) (by omega) (by omega), idx9 (tl3 s) ((tl3 s).size - 1) (by omega) (by omega), cut9' (tl3 s) (by omega), wrap_i64 (show -9223372036854775808 ≤ ((tl3 s).size : Int) - 2 by omega) (show ((tl3 s).size : Int) - 2 < 9223372036854775808 by omega), wrap_i64 (show -9223372036854775808 ≤ ((tl3 s).size : Int) - 1 by omega) (show ((tl3 s).size : Int) - 1 < 9223372036854775808 by omega)]
 apply hK27
 refine T_condT (by first | rfl | simp [h0, h1, h2, h3, h4, h5, h6, h7, h8, h9]) ?_
 refine T_sr fun K28 hK28 => ?_
 have hz3 := tl3_size s
 have hz2 := dl2_size (tl3 s)
 simp [h0, h1, h2, h3, h4, h5, h6, h7, h8, h9, idx9 s 0 (by omega) (by omega), idx9 s 1 (by omega) (by omega), idx9 s 2 (by omega) (by omega), cut9 s (by omega), idx9 (tl3 s) ((tl3 s).size - 2) (by omega) (by omega), idx9 (tl3 s) ((tl3 s).size - 1) (by omega) (by omega), cut9' (tl3 s) (by omega), wrap_i64 (show -9223372036854775808 ≤ ((tl3 s).size : Int) - 2 by omega) (show ((tl3 s).size : Int) - 2 < 9223372036854775808 by omega), wrap_i64 (show -9223372036854775808 ≤ ((tl3 s).size : Int) - 1 by omega) (show ((tl3 s).size : Int) - 1 < 9223372036854775808 by omega)]
 apply hK28
 refine T_ret ?_
 try simp only [kr]
 exact owes_add (.inr rfl) hwf rfl (by rw [show addrR s = (0, 0, false) from by simp only [addrR, if_neg h0, if_pos h1, if_neg h2, if_neg h3, if_pos h4, if_neg h5, if_pos h6, if_neg h7, if_neg h8, if_neg h9]] <;> simp [h0, h1, h2, h3, h4, h5, h6, h7, h8, h9]) (by simp (maxDischargeDepth := 20))
 refine T_rg ?_
 have hz3 := tl3_size s
 have hz2 := dl2_size (tl3 s)
 simp [h0, h1, h2, h3, h4, h5, h6, idx9 s 0 (by omega) (by omega), idx9 s 1 (by omega) (by omega), idx9 s 2 (by omega) (by omega), cut9 s (by omega), idx9 (tl3 s) ((tl3 s).size - 2) (by omega) (by omega), idx9 (tl3 s) ((tl3 s).size - 1) (by omega) (by omega), cut9' (tl3 s) (by omega), wrap_i64 (show -9223372036854775808 ≤ ((tl3 s).size : Int) - 2 by omega) (show ((tl3 s).size : Int) - 2 < 9223372036854775808 by omega), wrap_i64 (show -9223372036854775808 ≤ ((tl3 s).size : Int) - 1 by omega) (show ((tl3 s).size : Int) - 1 < 9223372036854775808 by omega)]
 apply hK15
 refine T_condT (by first | rfl | simp [h0, h1, h2, h3, h4, h5, h6]) ?_
 refine T_sr fun K29 hK29 => ?_
 have hz3 := tl3_size s
 have hz2 := dl2_size (tl3 s)
 simp [h0, h1, h2, h3, h4, h5, h6, idx9 s 0 (by omega) (by omega), idx9 s 1 (by omega) (by omega), idx9 s 2 (by omega) (by omega), cut9 s (by omega), idx9 (tl3 s) ((tl3 s).size - 2) (by omega) (by omega), idx9 (tl3 s) ((tl3 s).size - 1) (by omega) (by omega), cut9' (tl3 s) (by omega), wrap_i64 (show -9223372036854775808 ≤ ((tl3 s).size : Int) - 2 by omega) (show ((tl3 s).size : Int) - 2 < 9223372036854775808 by omega), wrap_i64 (show -9223372036854775808 ≤ ((tl3 s).size : Int) - 1 by omega) (show ((tl3 s).size : Int) - 1 < 9223372036854775808 by omega)]
 apply hK29
 refine T_ret ?_
 try simp only [kr]
 exact owes_add (.inr rfl) hwf rfl (by rw [show addrR s = (0, 0, false) from by simp only [addrR, if_neg h0, if_pos h1, if_neg h2, if_neg h3, if_pos h4, if_neg h5, if_neg h6]] <;> simp [h0, h1, h2, h3, h4, h5, h6]) (by simp (maxDischargeDepth := 20))
 refine T_condF (by first | rfl | simp [h0, h1, h2, h3, h4]) ?_
 refine T_skip ?_
 try simp only [kn]
 apply hK11
 refine T_seqk fun K30 hK30 => ?_
 by_cases h13 : atoiOk (tl3 s) = true
 refine T_rg ?_
 have hz3 := tl3_size s
 have hz2 := dl2_size (tl3 s)
 simp [h0, h1, h2, h3, h4, h13, idx9 s 0 (by omega) (by omega), idx9 s 1 (by omega) (by omega), idx9 s 2 (by omega) (by omega), cut9 s (by omega)]
 refine callK.of (atoiIs _ (tl3 s) (by have := tl3_size s; have := dl2_size (tl3 s); omega) h13) ?_
 rintro _ Hz ⟨rfl, hz⟩
 subst Hz
 simp [h0, h1, h2, h3, h4, h13, idx9 s 0 (by omega) (by omega), idx9 s 1 (by omega) (by omega), idx9 s 2 (by omega) (by omega), cut9 s (by omega)]
 apply hK30
 refine T_seqk fun K31 hK31 => ?_
 refine T_seqk fun K32 hK32 => ?_
 by_cases h14 : (atoiN (tl3 s)) < 0
 refine T_rg ?_
 have hz3 := tl3_size s
 have hz2 := dl2_size (tl3 s)
 simp [h0, h1, h2, h3, h4, h13, h14, idx9 s 0 (by omega) (by omega), idx9 s 1 (by omega) (by omega), idx9 s 2 (by omega) (by omega), cut9 s (by omega)]
 apply hK32
 refine T_condT (by first | rfl | simp [h0, h1, h2, h3, h4, h13, h14]) ?_
 refine T_sr fun K33 hK33 => ?_
 have hz3 := tl3_size s
 have hz2 := dl2_size (tl3 s)
 simp [h0, h1, h2, h3, h4, h13, h14, idx9 s 0 (by omega) (by omega), idx9 s 1 (by omega) (by omega), idx9 s 2 (by omega) (by omega), cut9 s (by omega)]
 apply hK33
 refine T_ret ?_
 try simp only [kr]
 exact owes_add (.inr rfl) hwf rfl (by rw [show addrR s = (0, 0, false) from by simp only [addrR, if_neg h0, if_pos h1, if_neg h2, if_neg h3, if_neg h4, if_pos h13, if_pos h14]] <;> simp [h0, h1, h2, h3, h4, h13, h14]) (by simp (maxDischargeDepth := 20))
 by_cases h15 : 4 < ((tl3 s).size : Int)
 refine T_rg ?_
 have hz3 := tl3_size s
 have hz2 := dl2_size (tl3 s)
 simp [h0, h1, h2, h3, h4, h13, h14, h15, idx9 s 0 (by omega) (by omega), idx9 s 1 (by omega) (by omega), idx9 s 2 (by omega) (by omega), cut9 s (by omega)]
 apply hK32
 refine T_condT (by first | rfl | simp [h0, h1, h2, h3, h4, h13, h14, h15]) ?_
 refine T_sr fun K34 hK34 => ?_
 have hz3 := tl3_size s
 have hz2 := dl2_size (tl3 s)
 simp [h0, h1, h2, h3, h4, h13, h14, h15, idx9 s 0 (by omega) (by omega), idx9 s 1 (by omega) (by omega), idx9 s 2 (by omega) (by omega), cut9 s (by omega)]
 apply hK34
 refine T_ret ?_
 try simp only [kr]
 exact owes_add (.inr rfl) hwf rfl (by rw [show addrR s = (0, 0, false) from by simp only [addrR, if_neg h0, if_pos h1, if_neg h2, if_neg h3, if_neg h4, if_pos h13, if_neg h14, if_pos h15]] <;> simp [h0, h1, h2, h3, h4, h13, h14, h15]) (by simp (maxDischargeDepth := 20))
 refine T_rg ?_
 have hz3 := tl3_size s
 have hz2 := dl2_size (tl3 s)
 simp [h0, h1, h2, h3, h4, h13, h14, h15, idx9 s 0 (by omega) (by omega), idx9 s 1 (by omega) (by omega), idx9 s 2 (by omega) (by omega), cut9 s (by omega)]
 refine callK.of (itoaIs _ (atoiN (tl3 s)) (atoiN_lo _) (atoiN_hi _)) ?_
 rintro _ Hz ⟨rfl, hz⟩
 subst Hz
 simp [h0, h1, h2, h3, h4, h13, h14, h15, idx9 s 0 (by omega) (by omega), idx9 s 1 (by omega) (by omega), idx9 s 2 (by omega) (by omega), cut9 s (by omega)]
 apply hK32
 by_cases h16 : (itoaS (atoiN (tl3 s))) = (tl3 s)
 refine T_condF (by first | rfl | simp [h0, h1, h2, h3, h4, h13, h14, h15, h16]) ?_
 refine T_skip ?_
 try simp only [kn]
 apply hK31
 refine T_seqk fun K35 hK35 => ?_
 by_cases h17 : (xB s) = 1
 refine T_rg ?_
 have hz3 := tl3_size s
 have hz2 := dl2_size (tl3 s)
 simp [h0, h1, h2, h3, h4, h13, h14, h15, h16, h17, idx9 s 0 (by omega) (by omega), idx9 s 1 (by omega) (by omega), idx9 s 2 (by omega) (by omega), cut9 s (by omega)]
 apply hK35
 refine T_ret ?_
 try simp only [kr]
 exact owes_add (.inr rfl) hwf rfl (by rw [show addrR s = (8, (indexB (⟨#[77, 73, 81]⟩) (byteAt s 1)), true) from by simp only [addrR, if_neg h0, if_pos h1, if_neg h2, if_neg h3, if_neg h4, if_pos h13, if_neg h14, if_neg h15, if_pos h16, if_pos h17]] <;> simp [h0, h1, h2, h3, h4, h13, h14, h15, h16, h17]) (by simp (maxDischargeDepth := 20))
 by_cases h18 : (xB s) = 2
 refine T_rg ?_
 have hz3 := tl3_size s
 have hz2 := dl2_size (tl3 s)
 simp [h0, h1, h2, h3, h4, h13, h14, h15, h16, h17, h18, idx9 s 0 (by omega) (by omega), idx9 s 1 (by omega) (by omega), idx9 s 2 (by omega) (by omega), cut9 s (by omega)]
 apply hK35
 refine T_ret ?_
 try simp only [kr]
 exact owes_add (.inr rfl) hwf rfl (by rw [show addrR s = (16, (indexB (⟨#[77, 73, 81]⟩) (byteAt s 1)), true) from by simp only [addrR, if_neg h0, if_pos h1, if_neg h2, if_neg h3, if_neg h4, if_pos h13, if_neg h14, if_neg h15, if_pos h16, if_neg h17, if_pos h18]] <;> simp [h0, h1, h2, h3, h4, h13, h14, h15, h16, h17, h18]) (by simp (maxDischargeDepth := 20))
 by_cases h19 : (xB s) = 3
 refine T_rg ?_
 have hz3 := tl3_size s
 have hz2 := dl2_size (tl3 s)
 simp [h0, h1, h2, h3, h4, h13, h14, h15, h16, h17, h18, h19, idx9 s 0 (by omega) (by omega), idx9 s 1 (by omega) (by omega), idx9 s 2 (by omega) (by omega), cut9 s (by omega)]
 apply hK35
 refine T_ret ?_
 try simp only [kr]
 exact owes_add (.inr rfl) hwf rfl (by rw [show addrR s = (32, (indexB (⟨#[77, 73, 81]⟩) (byteAt s 1)), true) from by simp only [addrR, if_neg h0, if_pos h1, if_neg h2, if_neg h3, if_neg h4, if_pos h13, if_neg h14, if_neg h15, if_pos h16, if_neg h17, if_neg h18, if_pos h19]] <;> simp [h0, h1, h2, h3, h4, h13, h14, h15, h16, h17, h18, h19]) (by simp (maxDischargeDepth := 20))
 by_cases h20 : (xB s) = 4
 refine T_rg ?_
 have hz3 := tl3_size s
 have hz2 := dl2_size (tl3 s)
 simp [h0, h1, h2, h3, h4, h13, h14, h15, h16, h17, h18, h19, h20, idx9 s 0 (by omega) (by omega), idx9 s 1 (by omega) (by omega), idx9 s 2 (by omega) (by omega), cut9 s (by omega)]
 apply hK35
 refine T_ret ?_
 try simp only [kr]
 exact owes_add (.inr rfl) hwf rfl (by rw [show addrR s = (64, (indexB (⟨#[77, 73, 81]⟩) (byteAt s 1)), true) from by simp only [addrR, if_neg h0, if_pos h1, if_neg h2, if_neg h3, if_neg h4, if_pos h13, if_neg h14, if_neg h15, if_pos h16, if_neg h17, if_neg h18, if_neg h19, if_pos h20]] <;> simp [h0, h1, h2, h3, h4, h13, h14, h15, h16, h17, h18, h19, h20]) (by simp (maxDischargeDepth := 20))
 exfalso
 have := xB_lt s
 have := Lib.indexByte_ge [88, 66, 87, 68, 76] (byteAt s 2).toNat.toUInt8
 simp only [xB, indexB] at *
 omega
 refine T_condT (by first | rfl | simp [h0, h1, h2, h3, h4, h13, h14, h15, h16]) ?_
 refine T_sr fun K36 hK36 => ?_
 have hz3 := tl3_size s
 have hz2 := dl2_size (tl3 s)
 simp [h0, h1, h2, h3, h4, h13, h14, h15, h16, idx9 s 0 (by omega) (by omega), idx9 s 1 (by omega) (by omega), idx9 s 2 (by omega) (by omega), cut9 s (by omega)]
 apply hK36
 refine T_ret ?_
 try simp only [kr]
 exact owes_add (.inr rfl) hwf rfl (by rw [show addrR s = (0, 0, false) from by simp only [addrR, if_neg h0, if_pos h1, if_neg h2, if_neg h3, if_neg h4, if_pos h13, if_neg h14, if_neg h15, if_neg h16]] <;> simp [h0, h1, h2, h3, h4, h13, h14, h15, h16]) (by simp (maxDischargeDepth := 20))
 refine T_rg ?_
 have hz3 := tl3_size s
 have hz2 := dl2_size (tl3 s)
 simp [h0, h1, h2, h3, h4, h13, idx9 s 0 (by omega) (by omega), idx9 s 1 (by omega) (by omega), idx9 s 2 (by omega) (by omega), cut9 s (by omega)]
 refine callK.of (atoiNo _ (tl3 s) (by have := tl3_size s; have := dl2_size (tl3 s); omega) h13) ?_
 rintro _ Hz ⟨rfl, hz⟩
 subst Hz
 simp [h0, h1, h2, h3, h4, h13, idx9 s 0 (by omega) (by omega), idx9 s 1 (by omega) (by omega), idx9 s 2 (by omega) (by omega), cut9 s (by omega)]
 apply hK30
 refine T_seqk fun K37 hK37 => ?_
 refine T_sr fun K38 hK38 => ?_
 have hz3 := tl3_size s
 have hz2 := dl2_size (tl3 s)
 simp [h0, h1, h2, h3, h4, h13, idx9 s 0 (by omega) (by omega), idx9 s 1 (by omega) (by omega), idx9 s 2 (by omega) (by omega), cut9 s (by omega)]
 apply hK38
 refine T_condT (by first | rfl | simp [h0, h1, h2, h3, h4, h13]) ?_
 refine T_sr fun K39 hK39 => ?_
 have hz3 := tl3_size s
 have hz2 := dl2_size (tl3 s)
 simp [h0, h1, h2, h3, h4, h13, idx9 s 0 (by omega) (by omega), idx9 s 1 (by omega) (by omega), idx9 s 2 (by omega) (by omega), cut9 s (by omega)]
 apply hK39
 refine T_ret ?_
 try simp only [kr]
 exact owes_add (.inr rfl) hwf rfl (by rw [show addrR s = (0, 0, false) from by simp only [addrR, if_neg h0, if_pos h1, if_neg h2, if_neg h3, if_neg h4, if_neg h13]] <;> simp [h0, h1, h2, h3, h4, h13]) (by simp (maxDischargeDepth := 20))
 refine T_condT (by first | rfl | simp [h0, h1]) ?_
 refine T_sr fun K40 hK40 => ?_
 have hz3 := tl3_size s
 have hz2 := dl2_size (tl3 s)
 simp [h0, h1, idx9 s 0 (by omega) (by omega), idx9 s 1 (by omega) (by omega), idx9 s 2 (by omega) (by omega), cut9 s (by omega)]
 apply hK40
 refine T_ret ?_
 try simp only [kr]
 exact owes_add (.inr rfl) hwf rfl (by rw [show addrR s = (0, 0, false) from by simp only [addrR, if_neg h0, if_neg h1]] <;> simp [h0, h1]) (by simp (maxDischargeDepth := 20))
end
section
def ent (s : ByteArray) : Value × PV := (.string s, .agg [])
def memB (av : List ByteArray) (s : ByteArray) : Bool := av.any (fun x => decide (x = s))
theorem memB_iff {av : List ByteArray} {s : ByteArray} : memB av s = true ↔ s ∈ av := by unfold memB; simp
def addTo (av : List ByteArray) (s : ByteArray) : List ByteArray := if memB av s = true then av else av ++ [s]
theorem setMap_setBox (H : AS) (i id : Nat) (r : List (List PV)) (e : List (Value × PV)) : (H.setBox i r).setMap id e = (H.setMap id e).setBox i r := rfl
theorem setMap_bump (H : AS) (m id : Nat) (e : List (Value × PV)) : (H.bump m).setMap id e = (H.setMap id e).bump m := rfl
theorem ext_setBoxM {H H2 : AS} {id i : Nat} {e : List (Value × PV)} {rows : List (List PV)} (hi : H.next ≤ i) (h : (H.setMap id e).Ext H2) : (H.setMap id e).Ext (H2.setBox i rows) := AS.Ext.setBox (H1 := H.setMap id e) hi h
theorem setMap_self {H : AS} {id : Nat} {e : List (Value × PV)} (h : H.mp id = some e) : H.setMap id e = H := by
 cases H with
 | mk b m n c =>
  unfold AS.setMap
  simp only [AS.mk.injEq, true_and, and_true]
  funext i
  split
  ·subst_vars; exact h.symm
  ·rfl
theorem wf_setMap {H : AS} (hwf : WF H) {id : Nat} {e : List (Value × PV)} (h : H.mp id = some e) (av : List ByteArray) : WF (H.setMap id (av.map ent)) := by
 refine ⟨fun i rows hb => hwf.box i rows hb, fun i es hm => ?_⟩
 rw [setMap_mp] at hm
 split at hm
 subst_vars
 cases hm
 refine ⟨(hwf.mp _ _ h).1, fun x hx => ?_⟩
 obtain ⟨s, _, rfl⟩ := List.mem_map.1 hx
 show Below _ (PV.agg [])
 simp
 exact hwf.mp i es hm
theorem all_ent (av : List ByteArray) : (av.map ent).all (fun x => (strKey x.1).isSome) = true := by
 rw [List.all_eq_true]; intro x hx; obtain ⟨s, _, rfl⟩ := List.mem_map.1 hx; rfl
theorem key_ent (av : List ByteArray) (s : ByteArray) : (keyAt (av.map ent) s = none ∧ memB av s = false) ∨ ∃ i, keyAt (av.map ent) s = some i ∧ (av.map ent)[i]? = some (ent s) ∧ memB av s = true := by
 cases e : keyAt (av.map ent) s with
 | none =>
  refine .inl ⟨rfl, Bool.eq_false_iff.2 fun hm' => ?_⟩
  have hm := memB_iff.1 hm'
  unfold keyAt at e
  have := List.findIdx?_eq_none_iff.1 e (ent s) (List.mem_map.2 ⟨s, hm, rfl⟩)
  simp [ent, strKey] at this
 | some i =>
  unfold keyAt at e
  obtain ⟨hi, hp, -⟩ := List.findIdx?_eq_some_iff_getElem.1 e
  simp only [List.getElem_map, ent, strKey, decide_eq_true_eq, Option.some.injEq] at hp
  have hi' : i < av.length := by simpa using hi
  refine .inr ⟨i, rfl, ?_, memB_iff.2 (hp ▸ List.getElem_mem hi')⟩
  rw [List.getElem?_map, List.getElem?_eq_getElem hi', hp]; rfl
theorem strM {H : AS} {id : Nat} {av : List ByteArray} (h : H.mp id = some (av.map ent)) : strMap Tryz.prog H 86 (.map id) = some (id, av.map ent) := by
 have h1 : Tryz.prog.underlying 86 = some (.map 9 129) := by kernel_rfl
 have h2 : Tryz.prog.underlying 9 = some .string := by kernel_rfl
 unfold strMap
 rw [h1]; simp only [h2, h, all_ent]; rfl
theorem lookM {H : AS} {id : Nat} {av : List ByteArray} (h : H.mp id = some (av.map ent)) (s : ByteArray) : aLookup Tryz.prog H 86 (.map id) (.val (.string s)) true = some (.tuple [.agg [], pb (memB av s)]) := by
 have hz : zeroOk Tryz.prog 86 = true := by kernel_rfl
 have hm : missing Tryz.prog 86 = .agg [] := by kernel_rfl
 unfold aLookup
 rw [strM h]
 rcases key_ent av s with ⟨e, hn⟩ | ⟨i, e, hi, hn⟩
 simp [hz, e, hn, hm]
 rw [List.getElem?_map] at hi
 simp [hz, e, hn, hi, ent]
theorem updM {H : AS} {id : Nat} {av : List ByteArray} (h : H.mp id = some (av.map ent)) (s : ByteArray) : aMapUpdate Tryz.prog H 86 (.map id) (.val (.string s)) (.agg []) = some (H.setMap id ((addTo av s).map ent)) := by
 unfold aMapUpdate
 rw [strM h]
 rcases key_ent av s with ⟨e, hn⟩ | ⟨i, e, hi, hn⟩
 simp [e, addTo, hn, ent]
 simp only [e, addTo, if_pos hn, Option.some.injEq]
 congr 1
 apply List.ext_getElem?
 intro j
 by_cases hj : j = i
 subst hj; rw [hi]
 have := List.getElem?_eq_some_iff.1 hi
 obtain ⟨hl, -⟩ := this
 simp [List.getElem?_set, ent] at hl ⊢
 exact hl
 rw [List.getElem?_set_ne (Ne.symm hj)]
attribute [local simp ↓] ex_lookup ex_mapUpdate
attribute [local simp] abox frame0 nx2 nx3 nx2' bump_setBox setBox_setBox beq_bytes wrap_nn int_beq int_bne DVal.row DOp.row DLook.row DFlat.row DType.row DNeed.row DCell.row eq42 setMap_setBox setMap_bump ext_setBoxM aFieldAddr aload partOf aBin aBinV aUn aBuild aBuild.go splice aExtract aalloc astore AS.Ext.refl AS.Ext.bump AS.Ext.setBox AS.Ext.kill AS.Ext.setMap
def cellB (x : DCell) (av : List ByteArray) : Bool := if x.kind < 1 then false else if 20 < x.kind then false else if x.sub = true then (if integerB x.kind = true then (if x.hi < x.lo then false else if x.max < 0 then false else if 254 < x.max then false else if 0 < x.max then (if x.kind = 19 then (if (fitsT ({ kind := 19, sub := true, lo := x.lo, hi := x.hi, max := x.max, array := false, fr := 0, to := 0, block := ⟨#[]⟩ } : DType) x.init) = 0 then (if x.addr = ⟨#[]⟩ then (if x.dir = 0 then true else false) else if (addrR x.addr).2.2 = true then (if (addrR x.addr).2.1 = x.dir then (if (addrR x.addr).1 = (bitsN 19) then false else false) else false) else false) else false) else false) else if x.kind = 20 then (if eqv x.init.kind x.init.bits x.init.text 20 0 ⟨#[]⟩ = true then (if x.keep = true then false else if x.addr = ⟨#[]⟩ then (if x.dir = 0 then true else false) else if (addrR x.addr).2.2 = true then (if (addrR x.addr).2.1 = x.dir then (if (addrR x.addr).1 = (bitsN 20) then false else false) else false) else false) else false) else if (fitsT ({ kind := x.kind, sub := true, lo := x.lo, hi := x.hi, max := x.max, array := false, fr := 0, to := 0, block := ⟨#[]⟩ } : DType) x.init) = 0 then (if x.addr = ⟨#[]⟩ then (if x.dir = 0 then true else false) else if (addrR x.addr).2.2 = true then (if (addrR x.addr).2.1 = x.dir then (if (addrR x.addr).1 = (bitsN x.kind) then false else false) else false) else false) else false) else false) else if x.lo = 0 then (if x.hi = 0 then (if x.max < 0 then false else if 254 < x.max then false else if 0 < x.max then (if x.kind = 19 then (if (fitsT ({ kind := 19, sub := false, lo := 0, hi := 0, max := x.max, array := false, fr := 0, to := 0, block := ⟨#[]⟩ } : DType) x.init) = 0 then (if x.addr = ⟨#[]⟩ then (if x.dir = 0 then true else false) else if (addrR x.addr).2.2 = true then (if (addrR x.addr).2.1 = x.dir then (if (addrR x.addr).1 = (bitsN 19) then (if memB av x.addr = true then false else true) else false) else false) else false) else false) else false) else if x.kind = 20 then (if eqv x.init.kind x.init.bits x.init.text 20 0 ⟨#[]⟩ = true then (if x.keep = true then false else if x.addr = ⟨#[]⟩ then (if x.dir = 0 then true else false) else if (addrR x.addr).2.2 = true then (if (addrR x.addr).2.1 = x.dir then (if (addrR x.addr).1 = (bitsN 20) then (if memB av x.addr = true then false else true) else false) else false) else false) else false) else if (fitsT ({ kind := x.kind, sub := false, lo := 0, hi := 0, max := x.max, array := false, fr := 0, to := 0, block := ⟨#[]⟩ } : DType) x.init) = 0 then (if x.addr = ⟨#[]⟩ then (if x.dir = 0 then true else false) else if (addrR x.addr).2.2 = true then (if (addrR x.addr).2.1 = x.dir then (if (addrR x.addr).1 = (bitsN x.kind) then (if memB av x.addr = true then false else true) else false) else false) else false) else false) else false) else false
theorem om0 {fn : Func} {H H1 : AS} {e : Exit} {F : AF} {id : Nat} {av : List ByteArray} {x : DCell} (hm : H.mp id = some (av.map ent)) (hcb : cellB x av = false) (h : Owes Tryz.prog fn H (fun r H'' => r = pb false ∧ H'' = H) e F H1) : Owes Tryz.prog fn H (fun q H' => (q = pb (cellB x av) ∧ ∃ av' : List ByteArray, H' = H.setMap id (av'.map ent) ∧ (cellB x av = true → av' = if x.addr = ⟨#[]⟩ then av else addTo av x.addr))) e F H1 := Owes.mono (k := fun r H'' => r = pb false ∧ H'' = H) (fun q H'' h => ⟨by rw [h.1, hcb], av, h.2.trans (setMap_self hm).symm, fun hc => by rw [hcb] at hc; cases hc⟩) h
theorem om1 {fn : Func} {H H1 : AS} {e : Exit} {F : AF} {id : Nat} {av : List ByteArray} {x : DCell} (hcb : cellB x av = false) (h : Owes Tryz.prog fn H (fun r H'' => r = pb false ∧ H'' = H.setMap id ((addTo av x.addr).map ent)) e F H1) : Owes Tryz.prog fn H (fun q H' => (q = pb (cellB x av) ∧ ∃ av' : List ByteArray, H' = H.setMap id (av'.map ent) ∧ (cellB x av = true → av' = if x.addr = ⟨#[]⟩ then av else addTo av x.addr))) e F H1 := Owes.mono (k := fun r H'' => r = pb false ∧ H'' = H.setMap id ((addTo av x.addr).map ent)) (fun q H'' h => ⟨by rw [h.1, hcb], addTo av x.addr, h.2, fun hc => by rw [hcb] at hc; cases hc⟩) h
theorem cellIsB (H : AS)  (x : DCell) (id : Nat) (av : List ByteArray) (hm : H.mp id = some (av.map ent)) (hs : x.addr.size ≤ 281474976710656) : ACalls Tryz.prog 36 [.agg x.row, .map id] H fun q H' => (q = pb (cellB x av) ∧ ∃ av' : List ByteArray, H' = H.setMap id (av'.map ent) ∧ (cellB x av = true → av' = if x.addr = ⟨#[]⟩ then av else addTo av x.addr)) := by
 refine ACalls_intro Tryz.func36 rfl (by kernel_rfl) (by simp) fun hwf hbel => ?_
 have hlk : ∀ (H1 : AS) (s : ByteArray), H1.mp id = some (av.map ent) → aLookup Tryz.prog H1 86 (.map id) (.val (.string s)) true = some (.tuple [.agg [], pb (memB av s)]) := fun H1 s h => lookM h s
 have hup : ∀ (H1 : AS) (s : ByteArray), H1.mp id = some (av.map ent) → aMapUpdate Tryz.prog H1 86 (.map id) (.val (.string s)) (.agg []) = some (H1.setMap id ((addTo av s).map ent)) := fun H1 s h => updM h s
 refine T_sr fun K0 hK0 => ?_
 simp [hm, hlk, hup]
 apply hK0
 refine T_seqk fun K1 hK1 => ?_
 refine T_seqk fun K2 hK2 => ?_
 by_cases h0 : x.kind < 1
 refine T_rg ?_
 simp [hm, hlk, hup, h0]
 apply hK2
 refine T_condT (by first | rfl | simp [h0]) ?_
 refine T_sr fun K3 hK3 => ?_
 simp [hm, hlk, hup, h0]
 apply hK3
 refine T_ret ?_
 try simp only [kr]
 have hcb : cellB x av = false := by
  simp only [cellB, if_pos h0]
 refine om0 hm hcb ?_
 exact owes_one_at (H1 := H) (.inr rfl) (hwf) (Nat.le_refl _) rfl (by simp [h0]) (by simp (maxDischargeDepth := 20)) (by simp) (by simp)
 by_cases h1 : 20 < x.kind
 refine T_rg ?_
 simp [hm, hlk, hup, h0, h1]
 apply hK2
 refine T_condT (by first | rfl | simp [h0, h1]) ?_
 refine T_sr fun K4 hK4 => ?_
 simp [hm, hlk, hup, h0, h1]
 apply hK4
 refine T_ret ?_
 try simp only [kr]
 have hcb : cellB x av = false := by
  simp only [cellB, if_neg h0, if_pos h1]
 refine om0 hm hcb ?_
 exact owes_one_at (H1 := H) (.inr rfl) (hwf) (Nat.le_refl _) rfl (by simp [h0, h1]) (by simp (maxDischargeDepth := 20)) (by simp) (by simp)
 by_cases h2 : x.sub = true
 by_cases h3 : integerB x.kind = true
 refine T_rg ?_
 simp [hm, hlk, hup, h0, h1, h2, h3]
 refine callK.of (integerIs _ x.kind) ?_
 rintro _ Hz ⟨rfl, hz⟩
 subst Hz
 simp [hm, hlk, hup, h0, h1, h2, h3]
 apply hK2
 by_cases h4 : x.hi < x.lo
 refine T_condT (by first | rfl | simp [h0, h1, h2, h3, h4]) ?_
 refine T_sr fun K5 hK5 => ?_
 simp [hm, hlk, hup, h0, h1, h2, h3, h4]
 apply hK5
 refine T_ret ?_
 try simp only [kr]
 have hcb : cellB x av = false := by
  simp only [cellB, if_neg h0, if_neg h1, if_pos h2, if_pos h3, if_pos h4]
 refine om0 hm hcb ?_
 exact owes_one_at (H1 := H) (.inr rfl) (hwf) (Nat.le_refl _) rfl (by simp [h0, h1, h2, h3, h4]) (by simp (maxDischargeDepth := 20)) (by simp) (by simp)
 refine T_condF (by first | rfl | simp [h0, h1, h2, h3, h4]) ?_
 refine T_skip ?_
 try simp only [kn]
 apply hK1
 refine T_seqk fun K6 hK6 => ?_
 refine T_seqk fun K7 hK7 => ?_
 by_cases h5 : x.max < 0
 refine T_rg ?_
 simp [hm, hlk, hup, h0, h1, h2, h3, h4, h5]
 apply hK7
 refine T_condT (by first | rfl | simp [h0, h1, h2, h3, h4, h5]) ?_
 refine T_sr fun K8 hK8 => ?_
 simp [hm, hlk, hup, h0, h1, h2, h3, h4, h5]
 apply hK8
 refine T_ret ?_
 try simp only [kr]
 have hcb : cellB x av = false := by
  simp only [cellB, if_neg h0, if_neg h1, if_pos h2, if_pos h3, if_neg h4, if_pos h5]
 refine om0 hm hcb ?_
 exact owes_one_at (H1 := H) (.inr rfl) (hwf) (Nat.le_refl _) rfl (by simp [h0, h1, h2, h3, h4, h5]) (by simp (maxDischargeDepth := 20)) (by simp) (by simp)
 by_cases h6 : 254 < x.max
 refine T_rg ?_
 simp [hm, hlk, hup, h0, h1, h2, h3, h4, h5, h6]
 apply hK7
 refine T_condT (by first | rfl | simp [h0, h1, h2, h3, h4, h5, h6]) ?_
 refine T_sr fun K9 hK9 => ?_
 simp [hm, hlk, hup, h0, h1, h2, h3, h4, h5, h6]
 apply hK9
 refine T_ret ?_
 try simp only [kr]
 have hcb : cellB x av = false := by
  simp only [cellB, if_neg h0, if_neg h1, if_pos h2, if_pos h3, if_neg h4, if_neg h5, if_pos h6]
 refine om0 hm hcb ?_
 exact owes_one_at (H1 := H) (.inr rfl) (hwf) (Nat.le_refl _) rfl (by simp [h0, h1, h2, h3, h4, h5, h6]) (by simp (maxDischargeDepth := 20)) (by simp) (by simp)
 by_cases h7 : 0 < x.max
 refine T_rg ?_
 simp [hm, hlk, hup, h0, h1, h2, h3, h4, h5, h6, h7]
 apply hK7
 by_cases h8 : x.kind = 19
 refine T_condF (by first | rfl | simp [h0, h1, h2, h3, h4, h5, h6, h7, h8]) ?_
 refine T_skip ?_
 try simp only [kn]
 apply hK6
 refine T_seqk fun K10 hK10 => ?_
 refine T_sr fun K11 hK11 => ?_
 simp [hm, hlk, hup, h0, h1, h2, h3, h4, h5, h6, h7, h8]
 apply hK11
 refine T_condF (by first | rfl | simp [h0, h1, h2, h3, h4, h5, h6, h7, h8]) ?_
 refine T_sr fun K12 hK12 => ?_
 simp [hm, hlk, hup, h0, h1, h2, h3, h4, h5, h6, h7, h8]
 refine callK.of (fitsTIs _ ({ kind := 19, sub := true, lo := x.lo, hi := x.hi, max := x.max, array := false, fr := 0, to := 0, block := ⟨#[]⟩ } : DType) x.init) ?_
 rintro _ Hz ⟨rfl, hz⟩
 subst Hz
 simp [hm, hlk, hup, h0, h1, h2, h3, h4, h5, h6, h7, h8]
 apply hK12
 by_cases h9 : (fitsT ({ kind := 19, sub := true, lo := x.lo, hi := x.hi, max := x.max, array := false, fr := 0, to := 0, block := ⟨#[]⟩ } : DType) x.init) = 0
 refine T_condF (by first | rfl | simp [h0, h1, h2, h3, h4, h5, h6, h7, h8, h9]) ?_
 refine T_skip ?_
 try simp only [kn]
 apply hK10
 refine T_seqk fun K13 hK13 => ?_
 refine T_sr fun K14 hK14 => ?_
 simp [hm, hlk, hup, h0, h1, h2, h3, h4, h5, h6, h7, h8, h9]
 apply hK14
 by_cases h10 : x.addr = ⟨#[]⟩
 refine T_condT (by first | rfl | simp [h0, h1, h2, h3, h4, h5, h6, h7, h8, h9, h10]) ?_
 refine T_sr fun K15 hK15 => ?_
 simp [hm, hlk, hup, h0, h1, h2, h3, h4, h5, h6, h7, h8, h9, h10]
 apply hK15
 refine T_ret ?_
 try simp only [kr]
 by_cases h11 : x.dir = 0
 have hcb : cellB x av = true := by
  simp only [cellB, if_neg h0, if_neg h1, if_pos h2, if_pos h3, if_neg h4, if_neg h5, if_neg h6, if_pos h7, if_pos h8, if_pos h9, if_pos h10, if_pos h11]
 refine Owes.mono (k := fun r H'' => r = pb true ∧ H'' = H) (fun q H'' h => ⟨by rw [h.1, hcb], av, h.2.trans (setMap_self hm).symm, fun hc => (if_pos h10).symm⟩) ?_
 exact owes_one_at (H1 := H) (.inr rfl) (hwf) (Nat.le_refl _) rfl (by simp [h0, h1, h2, h3, h4, h5, h6, h7, h8, h9, h10, h11]) (by simp (maxDischargeDepth := 20)) (by simp) (by simp)
 have hcb : cellB x av = false := by
  simp only [cellB, if_neg h0, if_neg h1, if_pos h2, if_pos h3, if_neg h4, if_neg h5, if_neg h6, if_pos h7, if_pos h8, if_pos h9, if_pos h10, if_neg h11]
 refine om0 hm hcb ?_
 exact owes_one_at (H1 := H) (.inr rfl) (hwf) (Nat.le_refl _) rfl (by simp [h0, h1, h2, h3, h4, h5, h6, h7, h8, h9, h10, h11]) (by simp (maxDischargeDepth := 20)) (by simp) (by simp)
 refine T_condF (by first | rfl | simp [h0, h1, h2, h3, h4, h5, h6, h7, h8, h9, h10]) ?_
 refine T_skip ?_
 try simp only [kn]
 apply hK13
 refine T_sr fun K16 hK16 => ?_
 simp [hm, hlk, hup, h0, h1, h2, h3, h4, h5, h6, h7, h8, h9, h10]
 refine callK.of (isAddrIs _ x.addr hs) ?_
 rintro _ Hz ⟨rfl, hz⟩
 subst Hz
 simp [hm, hlk, hup, h0, h1, h2, h3, h4, h5, h6, h7, h8, h9, h10]
 apply hK16
 refine T_sr fun K17 hK17 => ?_
 simp [hm, hlk, hup, h0, h1, h2, h3, h4, h5, h6, h7, h8, h9, h10]
 apply hK17
 refine T_sr fun K18 hK18 => ?_
 simp [hm, hlk, hup, h0, h1, h2, h3, h4, h5, h6, h7, h8, h9, h10]
 apply hK18
 refine T_seqk fun K19 hK19 => ?_
 by_cases h12 : (addrR x.addr).2.2 = true
 by_cases h13 : (addrR x.addr).2.1 = x.dir
 by_cases h14 : (addrR x.addr).1 = (bitsN 19)
 refine T_rg ?_
 simp [hm, hlk, hup, h0, h1, h2, h3, h4, h5, h6, h7, h8, h9, h10, h12, h13, h14]
 refine callK.of (bitsIs _ 19) ?_
 rintro _ Hz ⟨rfl, hz⟩
 subst Hz
 simp [hm, hlk, hup, h0, h1, h2, h3, h4, h5, h6, h7, h8, h9, h10, h12, h13, h14]
 apply hK19
 refine T_ret ?_
 try simp only [kr]
 have hcb : cellB x av = false := by
  simp only [cellB, if_neg h0, if_neg h1, if_pos h2, if_pos h3, if_neg h4, if_neg h5, if_neg h6, if_pos h7, if_pos h8, if_pos h9, if_neg h10, if_pos h12, if_pos h13, if_pos h14]
 refine om1 hcb ?_
 exact owes_one_at (H1 := H.setMap id ((addTo av x.addr).map ent)) (.inr rfl) (wf_setMap hwf hm _) (Nat.le_refl _) rfl (by simp [h0, h1, h2, h3, h4, h5, h6, h7, h8, h9, h10, h12, h13, h14]) (by simp (maxDischargeDepth := 20)) (by simp) (by simp)
 refine T_rg ?_
 simp [hm, hlk, hup, h0, h1, h2, h3, h4, h5, h6, h7, h8, h9, h10, h12, h13, h14]
 refine callK.of (bitsIs _ 19) ?_
 rintro _ Hz ⟨rfl, hz⟩
 subst Hz
 simp [hm, hlk, hup, h0, h1, h2, h3, h4, h5, h6, h7, h8, h9, h10, h12, h13, h14]
 apply hK19
 refine T_ret ?_
 try simp only [kr]
 have hcb : cellB x av = false := by
  simp only [cellB, if_neg h0, if_neg h1, if_pos h2, if_pos h3, if_neg h4, if_neg h5, if_neg h6, if_pos h7, if_pos h8, if_pos h9, if_neg h10, if_pos h12, if_pos h13, if_neg h14]
 refine om1 hcb ?_
 exact owes_one_at (H1 := H.setMap id ((addTo av x.addr).map ent)) (.inr rfl) (wf_setMap hwf hm _) (Nat.le_refl _) rfl (by simp [h0, h1, h2, h3, h4, h5, h6, h7, h8, h9, h10, h12, h13, h14]) (by simp (maxDischargeDepth := 20)) (by simp) (by simp)
 refine T_rg ?_
 simp [hm, hlk, hup, h0, h1, h2, h3, h4, h5, h6, h7, h8, h9, h10, h12, h13]
 apply hK19
 refine T_ret ?_
 try simp only [kr]
 have hcb : cellB x av = false := by
  simp only [cellB, if_neg h0, if_neg h1, if_pos h2, if_pos h3, if_neg h4, if_neg h5, if_neg h6, if_pos h7, if_pos h8, if_pos h9, if_neg h10, if_pos h12, if_neg h13]
 refine om1 hcb ?_
 exact owes_one_at (H1 := H.setMap id ((addTo av x.addr).map ent)) (.inr rfl) (wf_setMap hwf hm _) (Nat.le_refl _) rfl (by simp [h0, h1, h2, h3, h4, h5, h6, h7, h8, h9, h10, h12, h13]) (by simp (maxDischargeDepth := 20)) (by simp) (by simp)
 refine T_rg ?_
 simp [hm, hlk, hup, h0, h1, h2, h3, h4, h5, h6, h7, h8, h9, h10, h12]
 apply hK19
 refine T_ret ?_
 try simp only [kr]
 have hcb : cellB x av = false := by
  simp only [cellB, if_neg h0, if_neg h1, if_pos h2, if_pos h3, if_neg h4, if_neg h5, if_neg h6, if_pos h7, if_pos h8, if_pos h9, if_neg h10, if_neg h12]
 refine om1 hcb ?_
 exact owes_one_at (H1 := H.setMap id ((addTo av x.addr).map ent)) (.inr rfl) (wf_setMap hwf hm _) (Nat.le_refl _) rfl (by simp [h0, h1, h2, h3, h4, h5, h6, h7, h8, h9, h10, h12]) (by simp (maxDischargeDepth := 20)) (by simp) (by simp)
 refine T_condT (by first | rfl | simp [h0, h1, h2, h3, h4, h5, h6, h7, h8, h9]) ?_
 refine T_sr fun K20 hK20 => ?_
 simp [hm, hlk, hup, h0, h1, h2, h3, h4, h5, h6, h7, h8, h9]
 apply hK20
 refine T_ret ?_
 try simp only [kr]
 have hcb : cellB x av = false := by
  simp only [cellB, if_neg h0, if_neg h1, if_pos h2, if_pos h3, if_neg h4, if_neg h5, if_neg h6, if_pos h7, if_pos h8, if_neg h9]
 refine om0 hm hcb ?_
 exact owes_one_at (H1 := H) (.inr rfl) (hwf) (Nat.le_refl _) rfl (by simp [h0, h1, h2, h3, h4, h5, h6, h7, h8, h9]) (by simp (maxDischargeDepth := 20)) (by simp) (by simp)
 refine T_condT (by first | rfl | simp [h0, h1, h2, h3, h4, h5, h6, h7, h8]) ?_
 refine T_sr fun K21 hK21 => ?_
 simp [hm, hlk, hup, h0, h1, h2, h3, h4, h5, h6, h7, h8]
 apply hK21
 refine T_ret ?_
 try simp only [kr]
 have hcb : cellB x av = false := by
  simp only [cellB, if_neg h0, if_neg h1, if_pos h2, if_pos h3, if_neg h4, if_neg h5, if_neg h6, if_pos h7, if_neg h8]
 refine om0 hm hcb ?_
 exact owes_one_at (H1 := H) (.inr rfl) (hwf) (Nat.le_refl _) rfl (by simp [h0, h1, h2, h3, h4, h5, h6, h7, h8]) (by simp (maxDischargeDepth := 20)) (by simp) (by simp)
 refine T_rg ?_
 simp [hm, hlk, hup, h0, h1, h2, h3, h4, h5, h6, h7]
 apply hK7
 refine T_condF (by first | rfl | simp [h0, h1, h2, h3, h4, h5, h6, h7]) ?_
 refine T_skip ?_
 try simp only [kn]
 apply hK6
 refine T_seqk fun K22 hK22 => ?_
 refine T_sr fun K23 hK23 => ?_
 simp [hm, hlk, hup, h0, h1, h2, h3, h4, h5, h6, h7]
 apply hK23
 by_cases h15 : x.kind = 20
 refine T_condT (by first | rfl | simp [h0, h1, h2, h3, h4, h5, h6, h7, h15]) ?_
 refine T_seqk fun K24 hK24 => ?_
 by_cases h16 : eqv x.init.kind x.init.bits x.init.text 20 0 ⟨#[]⟩ = true
 refine T_rg ?_
 simp [hm, hlk, hup, h0, h1, h2, h3, h4, h5, h6, h7, h15, h16]
 apply hK24
 by_cases h17 : x.keep = true
 refine T_condT (by first | rfl | simp [h0, h1, h2, h3, h4, h5, h6, h7, h15, h16, h17]) ?_
 refine T_sr fun K25 hK25 => ?_
 simp [hm, hlk, hup, h0, h1, h2, h3, h4, h5, h6, h7, h15, h16, h17]
 apply hK25
 refine T_ret ?_
 try simp only [kr]
 have hcb : cellB x av = false := by
  simp only [cellB, if_neg h0, if_neg h1, if_pos h2, if_pos h3, if_neg h4, if_neg h5, if_neg h6, if_neg h7, if_pos h15, if_pos h16, if_pos h17]
 refine om0 hm hcb ?_
 exact owes_one_at (H1 := H) (.inr rfl) (hwf) (Nat.le_refl _) rfl (by simp [h0, h1, h2, h3, h4, h5, h6, h7, h15, h16, h17]) (by simp (maxDischargeDepth := 20)) (by simp) (by simp)
 refine T_condF (by first | rfl | simp [h0, h1, h2, h3, h4, h5, h6, h7, h15, h16, h17]) ?_
 refine T_skip ?_
 try simp only [kn]
 apply hK22
 refine T_seqk fun K26 hK26 => ?_
 refine T_sr fun K27 hK27 => ?_
 simp [hm, hlk, hup, h0, h1, h2, h3, h4, h5, h6, h7, h15, h16, h17]
 apply hK27
 by_cases h18 : x.addr = ⟨#[]⟩
 refine T_condT (by first | rfl | simp [h0, h1, h2, h3, h4, h5, h6, h7, h15, h16, h17, h18]) ?_
 refine T_sr fun K28 hK28 => ?_
 simp [hm, hlk, hup, h0, h1, h2, h3, h4, h5, h6, h7, h15, h16, h17, h18]
 apply hK28
 refine T_ret ?_
 try simp only [kr]
 by_cases h19 : x.dir = 0
 have hcb : cellB x av = true := by
  simp only [cellB, if_neg h0, if_neg h1, if_pos h2, if_pos h3, if_neg h4, if_neg h5, if_neg h6, if_neg h7, if_pos h15, if_pos h16, if_neg h17, if_pos h18, if_pos h19]
 refine Owes.mono (k := fun r H'' => r = pb true ∧ H'' = H) (fun q H'' h => ⟨by rw [h.1, hcb], av, h.2.trans (setMap_self hm).symm, fun hc => (if_pos h18).symm⟩) ?_
 exact owes_one_at (H1 := H) (.inr rfl) (hwf) (Nat.le_refl _) rfl (by simp [h0, h1, h2, h3, h4, h5, h6, h7, h15, h16, h17, h18, h19]) (by simp (maxDischargeDepth := 20)) (by simp) (by simp)
 have hcb : cellB x av = false := by
  simp only [cellB, if_neg h0, if_neg h1, if_pos h2, if_pos h3, if_neg h4, if_neg h5, if_neg h6, if_neg h7, if_pos h15, if_pos h16, if_neg h17, if_pos h18, if_neg h19]
 refine om0 hm hcb ?_
 exact owes_one_at (H1 := H) (.inr rfl) (hwf) (Nat.le_refl _) rfl (by simp [h0, h1, h2, h3, h4, h5, h6, h7, h15, h16, h17, h18, h19]) (by simp (maxDischargeDepth := 20)) (by simp) (by simp)
 refine T_condF (by first | rfl | simp [h0, h1, h2, h3, h4, h5, h6, h7, h15, h16, h17, h18]) ?_
 refine T_skip ?_
 try simp only [kn]
 apply hK26
 refine T_sr fun K29 hK29 => ?_
 simp [hm, hlk, hup, h0, h1, h2, h3, h4, h5, h6, h7, h15, h16, h17, h18]
 refine callK.of (isAddrIs _ x.addr hs) ?_
 rintro _ Hz ⟨rfl, hz⟩
 subst Hz
 simp [hm, hlk, hup, h0, h1, h2, h3, h4, h5, h6, h7, h15, h16, h17, h18]
 apply hK29
 refine T_sr fun K30 hK30 => ?_
 simp [hm, hlk, hup, h0, h1, h2, h3, h4, h5, h6, h7, h15, h16, h17, h18]
 apply hK30
 refine T_sr fun K31 hK31 => ?_
 simp [hm, hlk, hup, h0, h1, h2, h3, h4, h5, h6, h7, h15, h16, h17, h18]
 apply hK31
 refine T_seqk fun K32 hK32 => ?_
 by_cases h20 : (addrR x.addr).2.2 = true
 by_cases h21 : (addrR x.addr).2.1 = x.dir
 by_cases h22 : (addrR x.addr).1 = (bitsN 20)
 refine T_rg ?_
 simp [hm, hlk, hup, h0, h1, h2, h3, h4, h5, h6, h7, h15, h16, h17, h18, h20, h21, h22]
 refine callK.of (bitsIs _ 20) ?_
 rintro _ Hz ⟨rfl, hz⟩
 subst Hz
 simp [hm, hlk, hup, h0, h1, h2, h3, h4, h5, h6, h7, h15, h16, h17, h18, h20, h21, h22]
 apply hK32
 refine T_ret ?_
 try simp only [kr]
 have hcb : cellB x av = false := by
  simp only [cellB, if_neg h0, if_neg h1, if_pos h2, if_pos h3, if_neg h4, if_neg h5, if_neg h6, if_neg h7, if_pos h15, if_pos h16, if_neg h17, if_neg h18, if_pos h20, if_pos h21, if_pos h22]
 refine om1 hcb ?_
 exact owes_one_at (H1 := H.setMap id ((addTo av x.addr).map ent)) (.inr rfl) (wf_setMap hwf hm _) (Nat.le_refl _) rfl (by simp [h0, h1, h2, h3, h4, h5, h6, h7, h15, h16, h17, h18, h20, h21, h22]) (by simp (maxDischargeDepth := 20)) (by simp) (by simp)
 refine T_rg ?_
 simp [hm, hlk, hup, h0, h1, h2, h3, h4, h5, h6, h7, h15, h16, h17, h18, h20, h21, h22]
 refine callK.of (bitsIs _ 20) ?_
 rintro _ Hz ⟨rfl, hz⟩
 subst Hz
 simp [hm, hlk, hup, h0, h1, h2, h3, h4, h5, h6, h7, h15, h16, h17, h18, h20, h21, h22]
 apply hK32
 refine T_ret ?_
 try simp only [kr]
 have hcb : cellB x av = false := by
  simp only [cellB, if_neg h0, if_neg h1, if_pos h2, if_pos h3, if_neg h4, if_neg h5, if_neg h6, if_neg h7, if_pos h15, if_pos h16, if_neg h17, if_neg h18, if_pos h20, if_pos h21, if_neg h22]
 refine om1 hcb ?_
 exact owes_one_at (H1 := H.setMap id ((addTo av x.addr).map ent)) (.inr rfl) (wf_setMap hwf hm _) (Nat.le_refl _) rfl (by simp [h0, h1, h2, h3, h4, h5, h6, h7, h15, h16, h17, h18, h20, h21, h22]) (by simp (maxDischargeDepth := 20)) (by simp) (by simp)
 refine T_rg ?_
 simp [hm, hlk, hup, h0, h1, h2, h3, h4, h5, h6, h7, h15, h16, h17, h18, h20, h21]
 apply hK32
 refine T_ret ?_
 try simp only [kr]
 have hcb : cellB x av = false := by
  simp only [cellB, if_neg h0, if_neg h1, if_pos h2, if_pos h3, if_neg h4, if_neg h5, if_neg h6, if_neg h7, if_pos h15, if_pos h16, if_neg h17, if_neg h18, if_pos h20, if_neg h21]
 refine om1 hcb ?_
 exact owes_one_at (H1 := H.setMap id ((addTo av x.addr).map ent)) (.inr rfl) (wf_setMap hwf hm _) (Nat.le_refl _) rfl (by simp [h0, h1, h2, h3, h4, h5, h6, h7, h15, h16, h17, h18, h20, h21]) (by simp (maxDischargeDepth := 20)) (by simp) (by simp)
 refine T_rg ?_
 simp [hm, hlk, hup, h0, h1, h2, h3, h4, h5, h6, h7, h15, h16, h17, h18, h20]
 apply hK32
 refine T_ret ?_
 try simp only [kr]
 have hcb : cellB x av = false := by
  simp only [cellB, if_neg h0, if_neg h1, if_pos h2, if_pos h3, if_neg h4, if_neg h5, if_neg h6, if_neg h7, if_pos h15, if_pos h16, if_neg h17, if_neg h18, if_neg h20]
 refine om1 hcb ?_
 exact owes_one_at (H1 := H.setMap id ((addTo av x.addr).map ent)) (.inr rfl) (wf_setMap hwf hm _) (Nat.le_refl _) rfl (by simp [h0, h1, h2, h3, h4, h5, h6, h7, h15, h16, h17, h18, h20]) (by simp (maxDischargeDepth := 20)) (by simp) (by simp)
 refine T_rg ?_
 simp [hm, hlk, hup, h0, h1, h2, h3, h4, h5, h6, h7, h15, h16]
 apply hK24
 refine T_condT (by first | rfl | simp [h0, h1, h2, h3, h4, h5, h6, h7, h15, h16]) ?_
 refine T_sr fun K33 hK33 => ?_
 simp [hm, hlk, hup, h0, h1, h2, h3, h4, h5, h6, h7, h15, h16]
 apply hK33
 refine T_ret ?_
 try simp only [kr]
 have hcb : cellB x av = false := by
  simp only [cellB, if_neg h0, if_neg h1, if_pos h2, if_pos h3, if_neg h4, if_neg h5, if_neg h6, if_neg h7, if_pos h15, if_neg h16]
 refine om0 hm hcb ?_
 exact owes_one_at (H1 := H) (.inr rfl) (hwf) (Nat.le_refl _) rfl (by simp [h0, h1, h2, h3, h4, h5, h6, h7, h15, h16]) (by simp (maxDischargeDepth := 20)) (by simp) (by simp)
 refine T_condF (by first | rfl | simp [h0, h1, h2, h3, h4, h5, h6, h7, h15]) ?_
 refine T_sr fun K34 hK34 => ?_
 simp [hm, hlk, hup, h0, h1, h2, h3, h4, h5, h6, h7, h15]
 refine callK.of (fitsTIs _ ({ kind := x.kind, sub := true, lo := x.lo, hi := x.hi, max := x.max, array := false, fr := 0, to := 0, block := ⟨#[]⟩ } : DType) x.init) ?_
 rintro _ Hz ⟨rfl, hz⟩
 subst Hz
 simp [hm, hlk, hup, h0, h1, h2, h3, h4, h5, h6, h7, h15]
 apply hK34
 by_cases h23 : (fitsT ({ kind := x.kind, sub := true, lo := x.lo, hi := x.hi, max := x.max, array := false, fr := 0, to := 0, block := ⟨#[]⟩ } : DType) x.init) = 0
 refine T_condF (by first | rfl | simp [h0, h1, h2, h3, h4, h5, h6, h7, h15, h23]) ?_
 refine T_skip ?_
 try simp only [kn]
 apply hK22
 refine T_seqk fun K35 hK35 => ?_
 refine T_sr fun K36 hK36 => ?_
 simp [hm, hlk, hup, h0, h1, h2, h3, h4, h5, h6, h7, h15, h23]
 apply hK36
 by_cases h24 : x.addr = ⟨#[]⟩
 refine T_condT (by first | rfl | simp [h0, h1, h2, h3, h4, h5, h6, h7, h15, h23, h24]) ?_
 refine T_sr fun K37 hK37 => ?_
 simp [hm, hlk, hup, h0, h1, h2, h3, h4, h5, h6, h7, h15, h23, h24]
 apply hK37
 refine T_ret ?_
 try simp only [kr]
 by_cases h25 : x.dir = 0
 have hcb : cellB x av = true := by
  simp only [cellB, if_neg h0, if_neg h1, if_pos h2, if_pos h3, if_neg h4, if_neg h5, if_neg h6, if_neg h7, if_neg h15, if_pos h23, if_pos h24, if_pos h25]
 refine Owes.mono (k := fun r H'' => r = pb true ∧ H'' = H) (fun q H'' h => ⟨by rw [h.1, hcb], av, h.2.trans (setMap_self hm).symm, fun hc => (if_pos h24).symm⟩) ?_
 exact owes_one_at (H1 := H) (.inr rfl) (hwf) (Nat.le_refl _) rfl (by simp [h0, h1, h2, h3, h4, h5, h6, h7, h15, h23, h24, h25]) (by simp (maxDischargeDepth := 20)) (by simp) (by simp)
 have hcb : cellB x av = false := by
  simp only [cellB, if_neg h0, if_neg h1, if_pos h2, if_pos h3, if_neg h4, if_neg h5, if_neg h6, if_neg h7, if_neg h15, if_pos h23, if_pos h24, if_neg h25]
 refine om0 hm hcb ?_
 exact owes_one_at (H1 := H) (.inr rfl) (hwf) (Nat.le_refl _) rfl (by simp [h0, h1, h2, h3, h4, h5, h6, h7, h15, h23, h24, h25]) (by simp (maxDischargeDepth := 20)) (by simp) (by simp)
 refine T_condF (by first | rfl | simp [h0, h1, h2, h3, h4, h5, h6, h7, h15, h23, h24]) ?_
 refine T_skip ?_
 try simp only [kn]
 apply hK35
 refine T_sr fun K38 hK38 => ?_
 simp [hm, hlk, hup, h0, h1, h2, h3, h4, h5, h6, h7, h15, h23, h24]
 refine callK.of (isAddrIs _ x.addr hs) ?_
 rintro _ Hz ⟨rfl, hz⟩
 subst Hz
 simp [hm, hlk, hup, h0, h1, h2, h3, h4, h5, h6, h7, h15, h23, h24]
 apply hK38
 refine T_sr fun K39 hK39 => ?_
 simp [hm, hlk, hup, h0, h1, h2, h3, h4, h5, h6, h7, h15, h23, h24]
 apply hK39
 refine T_sr fun K40 hK40 => ?_
 simp [hm, hlk, hup, h0, h1, h2, h3, h4, h5, h6, h7, h15, h23, h24]
 apply hK40
 refine T_seqk fun K41 hK41 => ?_
 by_cases h26 : (addrR x.addr).2.2 = true
 by_cases h27 : (addrR x.addr).2.1 = x.dir
 by_cases h28 : (addrR x.addr).1 = (bitsN x.kind)
 refine T_rg ?_
 simp [hm, hlk, hup, h0, h1, h2, h3, h4, h5, h6, h7, h15, h23, h24, h26, h27, h28]
 refine callK.of (bitsIs _ x.kind) ?_
 rintro _ Hz ⟨rfl, hz⟩
 subst Hz
 simp [hm, hlk, hup, h0, h1, h2, h3, h4, h5, h6, h7, h15, h23, h24, h26, h27, h28]
 apply hK41
 refine T_ret ?_
 try simp only [kr]
 have hcb : cellB x av = false := by
  simp only [cellB, if_neg h0, if_neg h1, if_pos h2, if_pos h3, if_neg h4, if_neg h5, if_neg h6, if_neg h7, if_neg h15, if_pos h23, if_neg h24, if_pos h26, if_pos h27, if_pos h28]
 refine om1 hcb ?_
 exact owes_one_at (H1 := H.setMap id ((addTo av x.addr).map ent)) (.inr rfl) (wf_setMap hwf hm _) (Nat.le_refl _) rfl (by simp [h0, h1, h2, h3, h4, h5, h6, h7, h15, h23, h24, h26, h27, h28]) (by simp (maxDischargeDepth := 20)) (by simp) (by simp)
 refine T_rg ?_
 simp [hm, hlk, hup, h0, h1, h2, h3, h4, h5, h6, h7, h15, h23, h24, h26, h27, h28]
 refine callK.of (bitsIs _ x.kind) ?_
 rintro _ Hz ⟨rfl, hz⟩
 subst Hz
 simp [hm, hlk, hup, h0, h1, h2, h3, h4, h5, h6, h7, h15, h23, h24, h26, h27, h28]
 apply hK41
 refine T_ret ?_
 try simp only [kr]
 have hcb : cellB x av = false := by
  simp only [cellB, if_neg h0, if_neg h1, if_pos h2, if_pos h3, if_neg h4, if_neg h5, if_neg h6, if_neg h7, if_neg h15, if_pos h23, if_neg h24, if_pos h26, if_pos h27, if_neg h28]
 refine om1 hcb ?_
 exact owes_one_at (H1 := H.setMap id ((addTo av x.addr).map ent)) (.inr rfl) (wf_setMap hwf hm _) (Nat.le_refl _) rfl (by simp [h0, h1, h2, h3, h4, h5, h6, h7, h15, h23, h24, h26, h27, h28]) (by simp (maxDischargeDepth := 20)) (by simp) (by simp)
 refine T_rg ?_
 simp [hm, hlk, hup, h0, h1, h2, h3, h4, h5, h6, h7, h15, h23, h24, h26, h27]
 apply hK41
 refine T_ret ?_
 try simp only [kr]
 have hcb : cellB x av = false := by
  simp only [cellB, if_neg h0, if_neg h1, if_pos h2, if_pos h3, if_neg h4, if_neg h5, if_neg h6, if_neg h7, if_neg h15, if_pos h23, if_neg h24, if_pos h26, if_neg h27]
 refine om1 hcb ?_
 exact owes_one_at (H1 := H.setMap id ((addTo av x.addr).map ent)) (.inr rfl) (wf_setMap hwf hm _) (Nat.le_refl _) rfl (by simp [h0, h1, h2, h3, h4, h5, h6, h7, h15, h23, h24, h26, h27]) (by simp (maxDischargeDepth := 20)) (by simp) (by simp)
 refine T_rg ?_
 simp [hm, hlk, hup, h0, h1, h2, h3, h4, h5, h6, h7, h15, h23, h24, h26]
 apply hK41
 refine T_ret ?_
 try simp only [kr]
 have hcb : cellB x av = false := by
  simp only [cellB, if_neg h0, if_neg h1, if_pos h2, if_pos h3, if_neg h4, if_neg h5, if_neg h6, if_neg h7, if_neg h15, if_pos h23, if_neg h24, if_neg h26]
 refine om1 hcb ?_
 exact owes_one_at (H1 := H.setMap id ((addTo av x.addr).map ent)) (.inr rfl) (wf_setMap hwf hm _) (Nat.le_refl _) rfl (by simp [h0, h1, h2, h3, h4, h5, h6, h7, h15, h23, h24, h26]) (by simp (maxDischargeDepth := 20)) (by simp) (by simp)
 refine T_condT (by first | rfl | simp [h0, h1, h2, h3, h4, h5, h6, h7, h15, h23]) ?_
 refine T_sr fun K42 hK42 => ?_
 simp [hm, hlk, hup, h0, h1, h2, h3, h4, h5, h6, h7, h15, h23]
 apply hK42
 refine T_ret ?_
 try simp only [kr]
 have hcb : cellB x av = false := by
  simp only [cellB, if_neg h0, if_neg h1, if_pos h2, if_pos h3, if_neg h4, if_neg h5, if_neg h6, if_neg h7, if_neg h15, if_neg h23]
 refine om0 hm hcb ?_
 exact owes_one_at (H1 := H) (.inr rfl) (hwf) (Nat.le_refl _) rfl (by simp [h0, h1, h2, h3, h4, h5, h6, h7, h15, h23]) (by simp (maxDischargeDepth := 20)) (by simp) (by simp)
 refine T_rg ?_
 simp [hm, hlk, hup, h0, h1, h2, h3]
 refine callK.of (integerIs _ x.kind) ?_
 rintro _ Hz ⟨rfl, hz⟩
 subst Hz
 simp [hm, hlk, hup, h0, h1, h2, h3]
 apply hK2
 refine T_condT (by first | rfl | simp [h0, h1, h2, h3]) ?_
 refine T_sr fun K43 hK43 => ?_
 simp [hm, hlk, hup, h0, h1, h2, h3]
 apply hK43
 refine T_ret ?_
 try simp only [kr]
 have hcb : cellB x av = false := by
  simp only [cellB, if_neg h0, if_neg h1, if_pos h2, if_neg h3]
 refine om0 hm hcb ?_
 exact owes_one_at (H1 := H) (.inr rfl) (hwf) (Nat.le_refl _) rfl (by simp [h0, h1, h2, h3]) (by simp (maxDischargeDepth := 20)) (by simp) (by simp)
 by_cases h29 : x.lo = 0
 by_cases h30 : x.hi = 0
 refine T_rg ?_
 simp [hm, hlk, hup, h0, h1, h2, h29, h30]
 apply hK2
 refine T_condF (by first | rfl | simp [h0, h1, h2, h29, h30]) ?_
 refine T_skip ?_
 try simp only [kn]
 apply hK1
 refine T_seqk fun K44 hK44 => ?_
 refine T_seqk fun K45 hK45 => ?_
 by_cases h31 : x.max < 0
 refine T_rg ?_
 simp [hm, hlk, hup, h0, h1, h2, h29, h30, h31]
 apply hK45
 refine T_condT (by first | rfl | simp [h0, h1, h2, h29, h30, h31]) ?_
 refine T_sr fun K46 hK46 => ?_
 simp [hm, hlk, hup, h0, h1, h2, h29, h30, h31]
 apply hK46
 refine T_ret ?_
 try simp only [kr]
 have hcb : cellB x av = false := by
  simp only [cellB, if_neg h0, if_neg h1, if_neg h2, if_pos h29, if_pos h30, if_pos h31]
 refine om0 hm hcb ?_
 exact owes_one_at (H1 := H) (.inr rfl) (hwf) (Nat.le_refl _) rfl (by simp [h0, h1, h2, h29, h30, h31]) (by simp (maxDischargeDepth := 20)) (by simp) (by simp)
 by_cases h32 : 254 < x.max
 refine T_rg ?_
 simp [hm, hlk, hup, h0, h1, h2, h29, h30, h31, h32]
 apply hK45
 refine T_condT (by first | rfl | simp [h0, h1, h2, h29, h30, h31, h32]) ?_
 refine T_sr fun K47 hK47 => ?_
 simp [hm, hlk, hup, h0, h1, h2, h29, h30, h31, h32]
 apply hK47
 refine T_ret ?_
 try simp only [kr]
 have hcb : cellB x av = false := by
  simp only [cellB, if_neg h0, if_neg h1, if_neg h2, if_pos h29, if_pos h30, if_neg h31, if_pos h32]
 refine om0 hm hcb ?_
 exact owes_one_at (H1 := H) (.inr rfl) (hwf) (Nat.le_refl _) rfl (by simp [h0, h1, h2, h29, h30, h31, h32]) (by simp (maxDischargeDepth := 20)) (by simp) (by simp)
 by_cases h33 : 0 < x.max
 refine T_rg ?_
 simp [hm, hlk, hup, h0, h1, h2, h29, h30, h31, h32, h33]
 apply hK45
 by_cases h34 : x.kind = 19
 refine T_condF (by first | rfl | simp [h0, h1, h2, h29, h30, h31, h32, h33, h34]) ?_
 refine T_skip ?_
 try simp only [kn]
 apply hK44
 refine T_seqk fun K48 hK48 => ?_
 refine T_sr fun K49 hK49 => ?_
 simp [hm, hlk, hup, h0, h1, h2, h29, h30, h31, h32, h33, h34]
 apply hK49
 refine T_condF (by first | rfl | simp [h0, h1, h2, h29, h30, h31, h32, h33, h34]) ?_
 refine T_sr fun K50 hK50 => ?_
 simp [hm, hlk, hup, h0, h1, h2, h29, h30, h31, h32, h33, h34]
 refine callK.of (fitsTIs _ ({ kind := 19, sub := false, lo := 0, hi := 0, max := x.max, array := false, fr := 0, to := 0, block := ⟨#[]⟩ } : DType) x.init) ?_
 rintro _ Hz ⟨rfl, hz⟩
 subst Hz
 simp [hm, hlk, hup, h0, h1, h2, h29, h30, h31, h32, h33, h34]
 apply hK50
 by_cases h35 : (fitsT ({ kind := 19, sub := false, lo := 0, hi := 0, max := x.max, array := false, fr := 0, to := 0, block := ⟨#[]⟩ } : DType) x.init) = 0
 refine T_condF (by first | rfl | simp [h0, h1, h2, h29, h30, h31, h32, h33, h34, h35]) ?_
 refine T_skip ?_
 try simp only [kn]
 apply hK48
 refine T_seqk fun K51 hK51 => ?_
 refine T_sr fun K52 hK52 => ?_
 simp [hm, hlk, hup, h0, h1, h2, h29, h30, h31, h32, h33, h34, h35]
 apply hK52
 by_cases h36 : x.addr = ⟨#[]⟩
 refine T_condT (by first | rfl | simp [h0, h1, h2, h29, h30, h31, h32, h33, h34, h35, h36]) ?_
 refine T_sr fun K53 hK53 => ?_
 simp [hm, hlk, hup, h0, h1, h2, h29, h30, h31, h32, h33, h34, h35, h36]
 apply hK53
 refine T_ret ?_
 try simp only [kr]
 by_cases h37 : x.dir = 0
 have hcb : cellB x av = true := by
  simp only [cellB, if_neg h0, if_neg h1, if_neg h2, if_pos h29, if_pos h30, if_neg h31, if_neg h32, if_pos h33, if_pos h34, if_pos h35, if_pos h36, if_pos h37]
 refine Owes.mono (k := fun r H'' => r = pb true ∧ H'' = H) (fun q H'' h => ⟨by rw [h.1, hcb], av, h.2.trans (setMap_self hm).symm, fun hc => (if_pos h36).symm⟩) ?_
 exact owes_one_at (H1 := H) (.inr rfl) (hwf) (Nat.le_refl _) rfl (by simp [h0, h1, h2, h29, h30, h31, h32, h33, h34, h35, h36, h37]) (by simp (maxDischargeDepth := 20)) (by simp) (by simp)
 have hcb : cellB x av = false := by
  simp only [cellB, if_neg h0, if_neg h1, if_neg h2, if_pos h29, if_pos h30, if_neg h31, if_neg h32, if_pos h33, if_pos h34, if_pos h35, if_pos h36, if_neg h37]
 refine om0 hm hcb ?_
 exact owes_one_at (H1 := H) (.inr rfl) (hwf) (Nat.le_refl _) rfl (by simp [h0, h1, h2, h29, h30, h31, h32, h33, h34, h35, h36, h37]) (by simp (maxDischargeDepth := 20)) (by simp) (by simp)
 refine T_condF (by first | rfl | simp [h0, h1, h2, h29, h30, h31, h32, h33, h34, h35, h36]) ?_
 refine T_skip ?_
 try simp only [kn]
 apply hK51
 refine T_sr fun K54 hK54 => ?_
 simp [hm, hlk, hup, h0, h1, h2, h29, h30, h31, h32, h33, h34, h35, h36]
 refine callK.of (isAddrIs _ x.addr hs) ?_
 rintro _ Hz ⟨rfl, hz⟩
 subst Hz
 simp [hm, hlk, hup, h0, h1, h2, h29, h30, h31, h32, h33, h34, h35, h36]
 apply hK54
 refine T_sr fun K55 hK55 => ?_
 simp [hm, hlk, hup, h0, h1, h2, h29, h30, h31, h32, h33, h34, h35, h36]
 apply hK55
 refine T_sr fun K56 hK56 => ?_
 simp [hm, hlk, hup, h0, h1, h2, h29, h30, h31, h32, h33, h34, h35, h36]
 apply hK56
 refine T_seqk fun K57 hK57 => ?_
 by_cases h38 : (addrR x.addr).2.2 = true
 by_cases h39 : (addrR x.addr).2.1 = x.dir
 by_cases h40 : (addrR x.addr).1 = (bitsN 19)
 refine T_rg ?_
 simp [hm, hlk, hup, h0, h1, h2, h29, h30, h31, h32, h33, h34, h35, h36, h38, h39, h40]
 refine callK.of (bitsIs _ 19) ?_
 rintro _ Hz ⟨rfl, hz⟩
 subst Hz
 simp [hm, hlk, hup, h0, h1, h2, h29, h30, h31, h32, h33, h34, h35, h36, h38, h39, h40]
 apply hK57
 refine T_ret ?_
 try simp only [kr]
 by_cases h41 : memB av x.addr = true
 have hcb : cellB x av = false := by
  simp only [cellB, if_neg h0, if_neg h1, if_neg h2, if_pos h29, if_pos h30, if_neg h31, if_neg h32, if_pos h33, if_pos h34, if_pos h35, if_neg h36, if_pos h38, if_pos h39, if_pos h40, if_pos h41]
 refine om1 hcb ?_
 exact owes_one_at (H1 := H.setMap id ((addTo av x.addr).map ent)) (.inr rfl) (wf_setMap hwf hm _) (Nat.le_refl _) rfl (by simp [h0, h1, h2, h29, h30, h31, h32, h33, h34, h35, h36, h38, h39, h40, h41]) (by simp (maxDischargeDepth := 20)) (by simp) (by simp)
 have hcb : cellB x av = true := by
  simp only [cellB, if_neg h0, if_neg h1, if_neg h2, if_pos h29, if_pos h30, if_neg h31, if_neg h32, if_pos h33, if_pos h34, if_pos h35, if_neg h36, if_pos h38, if_pos h39, if_pos h40, if_neg h41]
 refine Owes.mono (k := fun r H'' => r = pb true ∧ H'' = H.setMap id ((addTo av x.addr).map ent)) (fun q H'' h => ⟨by rw [h.1, hcb], addTo av x.addr, h.2, fun hc => (if_neg h36).symm⟩) ?_
 exact owes_one_at (H1 := H.setMap id ((addTo av x.addr).map ent)) (.inr rfl) (wf_setMap hwf hm _) (Nat.le_refl _) rfl (by simp [h0, h1, h2, h29, h30, h31, h32, h33, h34, h35, h36, h38, h39, h40, h41]) (by simp (maxDischargeDepth := 20)) (by simp) (by simp)
 refine T_rg ?_
 simp [hm, hlk, hup, h0, h1, h2, h29, h30, h31, h32, h33, h34, h35, h36, h38, h39, h40]
 refine callK.of (bitsIs _ 19) ?_
 rintro _ Hz ⟨rfl, hz⟩
 subst Hz
 simp [hm, hlk, hup, h0, h1, h2, h29, h30, h31, h32, h33, h34, h35, h36, h38, h39, h40]
 apply hK57
 refine T_ret ?_
 try simp only [kr]
 have hcb : cellB x av = false := by
  simp only [cellB, if_neg h0, if_neg h1, if_neg h2, if_pos h29, if_pos h30, if_neg h31, if_neg h32, if_pos h33, if_pos h34, if_pos h35, if_neg h36, if_pos h38, if_pos h39, if_neg h40]
 refine om1 hcb ?_
 exact owes_one_at (H1 := H.setMap id ((addTo av x.addr).map ent)) (.inr rfl) (wf_setMap hwf hm _) (Nat.le_refl _) rfl (by simp [h0, h1, h2, h29, h30, h31, h32, h33, h34, h35, h36, h38, h39, h40]) (by simp (maxDischargeDepth := 20)) (by simp) (by simp)
 refine T_rg ?_
 simp [hm, hlk, hup, h0, h1, h2, h29, h30, h31, h32, h33, h34, h35, h36, h38, h39]
 apply hK57
 refine T_ret ?_
 try simp only [kr]
 have hcb : cellB x av = false := by
  simp only [cellB, if_neg h0, if_neg h1, if_neg h2, if_pos h29, if_pos h30, if_neg h31, if_neg h32, if_pos h33, if_pos h34, if_pos h35, if_neg h36, if_pos h38, if_neg h39]
 refine om1 hcb ?_
 exact owes_one_at (H1 := H.setMap id ((addTo av x.addr).map ent)) (.inr rfl) (wf_setMap hwf hm _) (Nat.le_refl _) rfl (by simp [h0, h1, h2, h29, h30, h31, h32, h33, h34, h35, h36, h38, h39]) (by simp (maxDischargeDepth := 20)) (by simp) (by simp)
 refine T_rg ?_
 simp [hm, hlk, hup, h0, h1, h2, h29, h30, h31, h32, h33, h34, h35, h36, h38]
 apply hK57
 refine T_ret ?_
 try simp only [kr]
 have hcb : cellB x av = false := by
  simp only [cellB, if_neg h0, if_neg h1, if_neg h2, if_pos h29, if_pos h30, if_neg h31, if_neg h32, if_pos h33, if_pos h34, if_pos h35, if_neg h36, if_neg h38]
 refine om1 hcb ?_
 exact owes_one_at (H1 := H.setMap id ((addTo av x.addr).map ent)) (.inr rfl) (wf_setMap hwf hm _) (Nat.le_refl _) rfl (by simp [h0, h1, h2, h29, h30, h31, h32, h33, h34, h35, h36, h38]) (by simp (maxDischargeDepth := 20)) (by simp) (by simp)
 refine T_condT (by first | rfl | simp [h0, h1, h2, h29, h30, h31, h32, h33, h34, h35]) ?_
 refine T_sr fun K58 hK58 => ?_
 simp [hm, hlk, hup, h0, h1, h2, h29, h30, h31, h32, h33, h34, h35]
 apply hK58
 refine T_ret ?_
 try simp only [kr]
 have hcb : cellB x av = false := by
  simp only [cellB, if_neg h0, if_neg h1, if_neg h2, if_pos h29, if_pos h30, if_neg h31, if_neg h32, if_pos h33, if_pos h34, if_neg h35]
 refine om0 hm hcb ?_
 exact owes_one_at (H1 := H) (.inr rfl) (hwf) (Nat.le_refl _) rfl (by simp [h0, h1, h2, h29, h30, h31, h32, h33, h34, h35]) (by simp (maxDischargeDepth := 20)) (by simp) (by simp)
 refine T_condT (by first | rfl | simp [h0, h1, h2, h29, h30, h31, h32, h33, h34]) ?_
 refine T_sr fun K59 hK59 => ?_
 simp [hm, hlk, hup, h0, h1, h2, h29, h30, h31, h32, h33, h34]
 apply hK59
 refine T_ret ?_
 try simp only [kr]
 have hcb : cellB x av = false := by
  simp only [cellB, if_neg h0, if_neg h1, if_neg h2, if_pos h29, if_pos h30, if_neg h31, if_neg h32, if_pos h33, if_neg h34]
 refine om0 hm hcb ?_
 exact owes_one_at (H1 := H) (.inr rfl) (hwf) (Nat.le_refl _) rfl (by simp [h0, h1, h2, h29, h30, h31, h32, h33, h34]) (by simp (maxDischargeDepth := 20)) (by simp) (by simp)
 refine T_rg ?_
 simp [hm, hlk, hup, h0, h1, h2, h29, h30, h31, h32, h33]
 apply hK45
 refine T_condF (by first | rfl | simp [h0, h1, h2, h29, h30, h31, h32, h33]) ?_
 refine T_skip ?_
 try simp only [kn]
 apply hK44
 refine T_seqk fun K60 hK60 => ?_
 refine T_sr fun K61 hK61 => ?_
 simp [hm, hlk, hup, h0, h1, h2, h29, h30, h31, h32, h33]
 apply hK61
 by_cases h42 : x.kind = 20
 refine T_condT (by first | rfl | simp [h0, h1, h2, h29, h30, h31, h32, h33, h42]) ?_
 refine T_seqk fun K62 hK62 => ?_
 by_cases h43 : eqv x.init.kind x.init.bits x.init.text 20 0 ⟨#[]⟩ = true
 refine T_rg ?_
 simp [hm, hlk, hup, h0, h1, h2, h29, h30, h31, h32, h33, h42, h43]
 apply hK62
 by_cases h44 : x.keep = true
 refine T_condT (by first | rfl | simp [h0, h1, h2, h29, h30, h31, h32, h33, h42, h43, h44]) ?_
 refine T_sr fun K63 hK63 => ?_
 simp [hm, hlk, hup, h0, h1, h2, h29, h30, h31, h32, h33, h42, h43, h44]
 apply hK63
 refine T_ret ?_
 try simp only [kr]
 have hcb : cellB x av = false := by
  simp only [cellB, if_neg h0, if_neg h1, if_neg h2, if_pos h29, if_pos h30, if_neg h31, if_neg h32, if_neg h33, if_pos h42, if_pos h43, if_pos h44]
 refine om0 hm hcb ?_
 exact owes_one_at (H1 := H) (.inr rfl) (hwf) (Nat.le_refl _) rfl (by simp [h0, h1, h2, h29, h30, h31, h32, h33, h42, h43, h44]) (by simp (maxDischargeDepth := 20)) (by simp) (by simp)
 refine T_condF (by first | rfl | simp [h0, h1, h2, h29, h30, h31, h32, h33, h42, h43, h44]) ?_
 refine T_skip ?_
 try simp only [kn]
 apply hK60
 refine T_seqk fun K64 hK64 => ?_
 refine T_sr fun K65 hK65 => ?_
 simp [hm, hlk, hup, h0, h1, h2, h29, h30, h31, h32, h33, h42, h43, h44]
 apply hK65
 by_cases h45 : x.addr = ⟨#[]⟩
 refine T_condT (by first | rfl | simp [h0, h1, h2, h29, h30, h31, h32, h33, h42, h43, h44, h45]) ?_
 refine T_sr fun K66 hK66 => ?_
 simp [hm, hlk, hup, h0, h1, h2, h29, h30, h31, h32, h33, h42, h43, h44, h45]
 apply hK66
 refine T_ret ?_
 try simp only [kr]
 by_cases h46 : x.dir = 0
 have hcb : cellB x av = true := by
  simp only [cellB, if_neg h0, if_neg h1, if_neg h2, if_pos h29, if_pos h30, if_neg h31, if_neg h32, if_neg h33, if_pos h42, if_pos h43, if_neg h44, if_pos h45, if_pos h46]
 refine Owes.mono (k := fun r H'' => r = pb true ∧ H'' = H) (fun q H'' h => ⟨by rw [h.1, hcb], av, h.2.trans (setMap_self hm).symm, fun hc => (if_pos h45).symm⟩) ?_
 exact owes_one_at (H1 := H) (.inr rfl) (hwf) (Nat.le_refl _) rfl (by simp [h0, h1, h2, h29, h30, h31, h32, h33, h42, h43, h44, h45, h46]) (by simp (maxDischargeDepth := 20)) (by simp) (by simp)
 have hcb : cellB x av = false := by
  simp only [cellB, if_neg h0, if_neg h1, if_neg h2, if_pos h29, if_pos h30, if_neg h31, if_neg h32, if_neg h33, if_pos h42, if_pos h43, if_neg h44, if_pos h45, if_neg h46]
 refine om0 hm hcb ?_
 exact owes_one_at (H1 := H) (.inr rfl) (hwf) (Nat.le_refl _) rfl (by simp [h0, h1, h2, h29, h30, h31, h32, h33, h42, h43, h44, h45, h46]) (by simp (maxDischargeDepth := 20)) (by simp) (by simp)
 refine T_condF (by first | rfl | simp [h0, h1, h2, h29, h30, h31, h32, h33, h42, h43, h44, h45]) ?_
 refine T_skip ?_
 try simp only [kn]
 apply hK64
 refine T_sr fun K67 hK67 => ?_
 simp [hm, hlk, hup, h0, h1, h2, h29, h30, h31, h32, h33, h42, h43, h44, h45]
 refine callK.of (isAddrIs _ x.addr hs) ?_
 rintro _ Hz ⟨rfl, hz⟩
 subst Hz
 simp [hm, hlk, hup, h0, h1, h2, h29, h30, h31, h32, h33, h42, h43, h44, h45]
 apply hK67
 refine T_sr fun K68 hK68 => ?_
 simp [hm, hlk, hup, h0, h1, h2, h29, h30, h31, h32, h33, h42, h43, h44, h45]
 apply hK68
 refine T_sr fun K69 hK69 => ?_
 simp [hm, hlk, hup, h0, h1, h2, h29, h30, h31, h32, h33, h42, h43, h44, h45]
 apply hK69
 refine T_seqk fun K70 hK70 => ?_
 by_cases h47 : (addrR x.addr).2.2 = true
 by_cases h48 : (addrR x.addr).2.1 = x.dir
 by_cases h49 : (addrR x.addr).1 = (bitsN 20)
 refine T_rg ?_
 simp [hm, hlk, hup, h0, h1, h2, h29, h30, h31, h32, h33, h42, h43, h44, h45, h47, h48, h49]
 refine callK.of (bitsIs _ 20) ?_
 rintro _ Hz ⟨rfl, hz⟩
 subst Hz
 simp [hm, hlk, hup, h0, h1, h2, h29, h30, h31, h32, h33, h42, h43, h44, h45, h47, h48, h49]
 apply hK70
 refine T_ret ?_
 try simp only [kr]
 by_cases h50 : memB av x.addr = true
 have hcb : cellB x av = false := by
  simp only [cellB, if_neg h0, if_neg h1, if_neg h2, if_pos h29, if_pos h30, if_neg h31, if_neg h32, if_neg h33, if_pos h42, if_pos h43, if_neg h44, if_neg h45, if_pos h47, if_pos h48, if_pos h49, if_pos h50]
 refine om1 hcb ?_
 exact owes_one_at (H1 := H.setMap id ((addTo av x.addr).map ent)) (.inr rfl) (wf_setMap hwf hm _) (Nat.le_refl _) rfl (by simp [h0, h1, h2, h29, h30, h31, h32, h33, h42, h43, h44, h45, h47, h48, h49, h50]) (by simp (maxDischargeDepth := 20)) (by simp) (by simp)
 have hcb : cellB x av = true := by
  simp only [cellB, if_neg h0, if_neg h1, if_neg h2, if_pos h29, if_pos h30, if_neg h31, if_neg h32, if_neg h33, if_pos h42, if_pos h43, if_neg h44, if_neg h45, if_pos h47, if_pos h48, if_pos h49, if_neg h50]
 refine Owes.mono (k := fun r H'' => r = pb true ∧ H'' = H.setMap id ((addTo av x.addr).map ent)) (fun q H'' h => ⟨by rw [h.1, hcb], addTo av x.addr, h.2, fun hc => (if_neg h45).symm⟩) ?_
 exact owes_one_at (H1 := H.setMap id ((addTo av x.addr).map ent)) (.inr rfl) (wf_setMap hwf hm _) (Nat.le_refl _) rfl (by simp [h0, h1, h2, h29, h30, h31, h32, h33, h42, h43, h44, h45, h47, h48, h49, h50]) (by simp (maxDischargeDepth := 20)) (by simp) (by simp)
 refine T_rg ?_
 simp [hm, hlk, hup, h0, h1, h2, h29, h30, h31, h32, h33, h42, h43, h44, h45, h47, h48, h49]
 refine callK.of (bitsIs _ 20) ?_
 rintro _ Hz ⟨rfl, hz⟩
 subst Hz
 simp [hm, hlk, hup, h0, h1, h2, h29, h30, h31, h32, h33, h42, h43, h44, h45, h47, h48, h49]
 apply hK70
 refine T_ret ?_
 try simp only [kr]
 have hcb : cellB x av = false := by
  simp only [cellB, if_neg h0, if_neg h1, if_neg h2, if_pos h29, if_pos h30, if_neg h31, if_neg h32, if_neg h33, if_pos h42, if_pos h43, if_neg h44, if_neg h45, if_pos h47, if_pos h48, if_neg h49]
 refine om1 hcb ?_
 exact owes_one_at (H1 := H.setMap id ((addTo av x.addr).map ent)) (.inr rfl) (wf_setMap hwf hm _) (Nat.le_refl _) rfl (by simp [h0, h1, h2, h29, h30, h31, h32, h33, h42, h43, h44, h45, h47, h48, h49]) (by simp (maxDischargeDepth := 20)) (by simp) (by simp)
 refine T_rg ?_
 simp [hm, hlk, hup, h0, h1, h2, h29, h30, h31, h32, h33, h42, h43, h44, h45, h47, h48]
 apply hK70
 refine T_ret ?_
 try simp only [kr]
 have hcb : cellB x av = false := by
  simp only [cellB, if_neg h0, if_neg h1, if_neg h2, if_pos h29, if_pos h30, if_neg h31, if_neg h32, if_neg h33, if_pos h42, if_pos h43, if_neg h44, if_neg h45, if_pos h47, if_neg h48]
 refine om1 hcb ?_
 exact owes_one_at (H1 := H.setMap id ((addTo av x.addr).map ent)) (.inr rfl) (wf_setMap hwf hm _) (Nat.le_refl _) rfl (by simp [h0, h1, h2, h29, h30, h31, h32, h33, h42, h43, h44, h45, h47, h48]) (by simp (maxDischargeDepth := 20)) (by simp) (by simp)
 refine T_rg ?_
 simp [hm, hlk, hup, h0, h1, h2, h29, h30, h31, h32, h33, h42, h43, h44, h45, h47]
 apply hK70
 refine T_ret ?_
 try simp only [kr]
 have hcb : cellB x av = false := by
  simp only [cellB, if_neg h0, if_neg h1, if_neg h2, if_pos h29, if_pos h30, if_neg h31, if_neg h32, if_neg h33, if_pos h42, if_pos h43, if_neg h44, if_neg h45, if_neg h47]
 refine om1 hcb ?_
 exact owes_one_at (H1 := H.setMap id ((addTo av x.addr).map ent)) (.inr rfl) (wf_setMap hwf hm _) (Nat.le_refl _) rfl (by simp [h0, h1, h2, h29, h30, h31, h32, h33, h42, h43, h44, h45, h47]) (by simp (maxDischargeDepth := 20)) (by simp) (by simp)
 refine T_rg ?_
 simp [hm, hlk, hup, h0, h1, h2, h29, h30, h31, h32, h33, h42, h43]
 apply hK62
 refine T_condT (by first | rfl | simp [h0, h1, h2, h29, h30, h31, h32, h33, h42, h43]) ?_
 refine T_sr fun K71 hK71 => ?_
 simp [hm, hlk, hup, h0, h1, h2, h29, h30, h31, h32, h33, h42, h43]
 apply hK71
 refine T_ret ?_
 try simp only [kr]
 have hcb : cellB x av = false := by
  simp only [cellB, if_neg h0, if_neg h1, if_neg h2, if_pos h29, if_pos h30, if_neg h31, if_neg h32, if_neg h33, if_pos h42, if_neg h43]
 refine om0 hm hcb ?_
 exact owes_one_at (H1 := H) (.inr rfl) (hwf) (Nat.le_refl _) rfl (by simp [h0, h1, h2, h29, h30, h31, h32, h33, h42, h43]) (by simp (maxDischargeDepth := 20)) (by simp) (by simp)
 refine T_condF (by first | rfl | simp [h0, h1, h2, h29, h30, h31, h32, h33, h42]) ?_
 refine T_sr fun K72 hK72 => ?_
 simp [hm, hlk, hup, h0, h1, h2, h29, h30, h31, h32, h33, h42]
 refine callK.of (fitsTIs _ ({ kind := x.kind, sub := false, lo := 0, hi := 0, max := x.max, array := false, fr := 0, to := 0, block := ⟨#[]⟩ } : DType) x.init) ?_
 rintro _ Hz ⟨rfl, hz⟩
 subst Hz
 simp [hm, hlk, hup, h0, h1, h2, h29, h30, h31, h32, h33, h42]
 apply hK72
 by_cases h51 : (fitsT ({ kind := x.kind, sub := false, lo := 0, hi := 0, max := x.max, array := false, fr := 0, to := 0, block := ⟨#[]⟩ } : DType) x.init) = 0
 refine T_condF (by first | rfl | simp [h0, h1, h2, h29, h30, h31, h32, h33, h42, h51]) ?_
 refine T_skip ?_
 try simp only [kn]
 apply hK60
 refine T_seqk fun K73 hK73 => ?_
 refine T_sr fun K74 hK74 => ?_
 simp [hm, hlk, hup, h0, h1, h2, h29, h30, h31, h32, h33, h42, h51]
 apply hK74
 by_cases h52 : x.addr = ⟨#[]⟩
 refine T_condT (by first | rfl | simp [h0, h1, h2, h29, h30, h31, h32, h33, h42, h51, h52]) ?_
 refine T_sr fun K75 hK75 => ?_
 simp [hm, hlk, hup, h0, h1, h2, h29, h30, h31, h32, h33, h42, h51, h52]
 apply hK75
 refine T_ret ?_
 try simp only [kr]
 by_cases h53 : x.dir = 0
 have hcb : cellB x av = true := by
  simp only [cellB, if_neg h0, if_neg h1, if_neg h2, if_pos h29, if_pos h30, if_neg h31, if_neg h32, if_neg h33, if_neg h42, if_pos h51, if_pos h52, if_pos h53]
 refine Owes.mono (k := fun r H'' => r = pb true ∧ H'' = H) (fun q H'' h => ⟨by rw [h.1, hcb], av, h.2.trans (setMap_self hm).symm, fun hc => (if_pos h52).symm⟩) ?_
 exact owes_one_at (H1 := H) (.inr rfl) (hwf) (Nat.le_refl _) rfl (by simp [h0, h1, h2, h29, h30, h31, h32, h33, h42, h51, h52, h53]) (by simp (maxDischargeDepth := 20)) (by simp) (by simp)
 have hcb : cellB x av = false := by
  simp only [cellB, if_neg h0, if_neg h1, if_neg h2, if_pos h29, if_pos h30, if_neg h31, if_neg h32, if_neg h33, if_neg h42, if_pos h51, if_pos h52, if_neg h53]
 refine om0 hm hcb ?_
 exact owes_one_at (H1 := H) (.inr rfl) (hwf) (Nat.le_refl _) rfl (by simp [h0, h1, h2, h29, h30, h31, h32, h33, h42, h51, h52, h53]) (by simp (maxDischargeDepth := 20)) (by simp) (by simp)
 refine T_condF (by first | rfl | simp [h0, h1, h2, h29, h30, h31, h32, h33, h42, h51, h52]) ?_
 refine T_skip ?_
 try simp only [kn]
 apply hK73
 refine T_sr fun K76 hK76 => ?_
 simp [hm, hlk, hup, h0, h1, h2, h29, h30, h31, h32, h33, h42, h51, h52]
 refine callK.of (isAddrIs _ x.addr hs) ?_
 rintro _ Hz ⟨rfl, hz⟩
 subst Hz
 simp [hm, hlk, hup, h0, h1, h2, h29, h30, h31, h32, h33, h42, h51, h52]
 apply hK76
 refine T_sr fun K77 hK77 => ?_
 simp [hm, hlk, hup, h0, h1, h2, h29, h30, h31, h32, h33, h42, h51, h52]
 apply hK77
 refine T_sr fun K78 hK78 => ?_
 simp [hm, hlk, hup, h0, h1, h2, h29, h30, h31, h32, h33, h42, h51, h52]
 apply hK78
 refine T_seqk fun K79 hK79 => ?_
 by_cases h54 : (addrR x.addr).2.2 = true
 by_cases h55 : (addrR x.addr).2.1 = x.dir
 by_cases h56 : (addrR x.addr).1 = (bitsN x.kind)
 refine T_rg ?_
 simp [hm, hlk, hup, h0, h1, h2, h29, h30, h31, h32, h33, h42, h51, h52, h54, h55, h56]
 refine callK.of (bitsIs _ x.kind) ?_
 rintro _ Hz ⟨rfl, hz⟩
 subst Hz
 simp [hm, hlk, hup, h0, h1, h2, h29, h30, h31, h32, h33, h42, h51, h52, h54, h55, h56]
 apply hK79
 refine T_ret ?_
 try simp only [kr]
 by_cases h57 : memB av x.addr = true
 have hcb : cellB x av = false := by
  simp only [cellB, if_neg h0, if_neg h1, if_neg h2, if_pos h29, if_pos h30, if_neg h31, if_neg h32, if_neg h33, if_neg h42, if_pos h51, if_neg h52, if_pos h54, if_pos h55, if_pos h56, if_pos h57]
 refine om1 hcb ?_
 exact owes_one_at (H1 := H.setMap id ((addTo av x.addr).map ent)) (.inr rfl) (wf_setMap hwf hm _) (Nat.le_refl _) rfl (by simp [h0, h1, h2, h29, h30, h31, h32, h33, h42, h51, h52, h54, h55, h56, h57]) (by simp (maxDischargeDepth := 20)) (by simp) (by simp)
 have hcb : cellB x av = true := by
  simp only [cellB, if_neg h0, if_neg h1, if_neg h2, if_pos h29, if_pos h30, if_neg h31, if_neg h32, if_neg h33, if_neg h42, if_pos h51, if_neg h52, if_pos h54, if_pos h55, if_pos h56, if_neg h57]
 refine Owes.mono (k := fun r H'' => r = pb true ∧ H'' = H.setMap id ((addTo av x.addr).map ent)) (fun q H'' h => ⟨by rw [h.1, hcb], addTo av x.addr, h.2, fun hc => (if_neg h52).symm⟩) ?_
 exact owes_one_at (H1 := H.setMap id ((addTo av x.addr).map ent)) (.inr rfl) (wf_setMap hwf hm _) (Nat.le_refl _) rfl (by simp [h0, h1, h2, h29, h30, h31, h32, h33, h42, h51, h52, h54, h55, h56, h57]) (by simp (maxDischargeDepth := 20)) (by simp) (by simp)
 refine T_rg ?_
 simp [hm, hlk, hup, h0, h1, h2, h29, h30, h31, h32, h33, h42, h51, h52, h54, h55, h56]
 refine callK.of (bitsIs _ x.kind) ?_
 rintro _ Hz ⟨rfl, hz⟩
 subst Hz
 simp [hm, hlk, hup, h0, h1, h2, h29, h30, h31, h32, h33, h42, h51, h52, h54, h55, h56]
 apply hK79
 refine T_ret ?_
 try simp only [kr]
 have hcb : cellB x av = false := by
  simp only [cellB, if_neg h0, if_neg h1, if_neg h2, if_pos h29, if_pos h30, if_neg h31, if_neg h32, if_neg h33, if_neg h42, if_pos h51, if_neg h52, if_pos h54, if_pos h55, if_neg h56]
 refine om1 hcb ?_
 exact owes_one_at (H1 := H.setMap id ((addTo av x.addr).map ent)) (.inr rfl) (wf_setMap hwf hm _) (Nat.le_refl _) rfl (by simp [h0, h1, h2, h29, h30, h31, h32, h33, h42, h51, h52, h54, h55, h56]) (by simp (maxDischargeDepth := 20)) (by simp) (by simp)
 refine T_rg ?_
 simp [hm, hlk, hup, h0, h1, h2, h29, h30, h31, h32, h33, h42, h51, h52, h54, h55]
 apply hK79
 refine T_ret ?_
 try simp only [kr]
 have hcb : cellB x av = false := by
  simp only [cellB, if_neg h0, if_neg h1, if_neg h2, if_pos h29, if_pos h30, if_neg h31, if_neg h32, if_neg h33, if_neg h42, if_pos h51, if_neg h52, if_pos h54, if_neg h55]
 refine om1 hcb ?_
 exact owes_one_at (H1 := H.setMap id ((addTo av x.addr).map ent)) (.inr rfl) (wf_setMap hwf hm _) (Nat.le_refl _) rfl (by simp [h0, h1, h2, h29, h30, h31, h32, h33, h42, h51, h52, h54, h55]) (by simp (maxDischargeDepth := 20)) (by simp) (by simp)
 refine T_rg ?_
 simp [hm, hlk, hup, h0, h1, h2, h29, h30, h31, h32, h33, h42, h51, h52, h54]
 apply hK79
 refine T_ret ?_
 try simp only [kr]
 have hcb : cellB x av = false := by
  simp only [cellB, if_neg h0, if_neg h1, if_neg h2, if_pos h29, if_pos h30, if_neg h31, if_neg h32, if_neg h33, if_neg h42, if_pos h51, if_neg h52, if_neg h54]
 refine om1 hcb ?_
 exact owes_one_at (H1 := H.setMap id ((addTo av x.addr).map ent)) (.inr rfl) (wf_setMap hwf hm _) (Nat.le_refl _) rfl (by simp [h0, h1, h2, h29, h30, h31, h32, h33, h42, h51, h52, h54]) (by simp (maxDischargeDepth := 20)) (by simp) (by simp)
 refine T_condT (by first | rfl | simp [h0, h1, h2, h29, h30, h31, h32, h33, h42, h51]) ?_
 refine T_sr fun K80 hK80 => ?_
 simp [hm, hlk, hup, h0, h1, h2, h29, h30, h31, h32, h33, h42, h51]
 apply hK80
 refine T_ret ?_
 try simp only [kr]
 have hcb : cellB x av = false := by
  simp only [cellB, if_neg h0, if_neg h1, if_neg h2, if_pos h29, if_pos h30, if_neg h31, if_neg h32, if_neg h33, if_neg h42, if_neg h51]
 refine om0 hm hcb ?_
 exact owes_one_at (H1 := H) (.inr rfl) (hwf) (Nat.le_refl _) rfl (by simp [h0, h1, h2, h29, h30, h31, h32, h33, h42, h51]) (by simp (maxDischargeDepth := 20)) (by simp) (by simp)
 refine T_rg ?_
 simp [hm, hlk, hup, h0, h1, h2, h29, h30]
 apply hK2
 refine T_condT (by first | rfl | simp [h0, h1, h2, h29, h30]) ?_
 refine T_sr fun K81 hK81 => ?_
 simp [hm, hlk, hup, h0, h1, h2, h29, h30]
 apply hK81
 refine T_ret ?_
 try simp only [kr]
 have hcb : cellB x av = false := by
  simp only [cellB, if_neg h0, if_neg h1, if_neg h2, if_pos h29, if_neg h30]
 refine om0 hm hcb ?_
 exact owes_one_at (H1 := H) (.inr rfl) (hwf) (Nat.le_refl _) rfl (by simp [h0, h1, h2, h29, h30]) (by simp (maxDischargeDepth := 20)) (by simp) (by simp)
 refine T_rg ?_
 simp [hm, hlk, hup, h0, h1, h2, h29]
 apply hK2
 refine T_condT (by first | rfl | simp [h0, h1, h2, h29]) ?_
 refine T_sr fun K82 hK82 => ?_
 simp [hm, hlk, hup, h0, h1, h2, h29]
 apply hK82
 refine T_ret ?_
 try simp only [kr]
 have hcb : cellB x av = false := by
  simp only [cellB, if_neg h0, if_neg h1, if_neg h2, if_neg h29]
 refine om0 hm hcb ?_
 exact owes_one_at (H1 := H) (.inr rfl) (hwf) (Nat.le_refl _) rfl (by simp [h0, h1, h2, h29]) (by simp (maxDischargeDepth := 20)) (by simp) (by simp)
end
end Go.Abs
