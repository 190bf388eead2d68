/- Printed by a program of ours: walks over the loaded functions. -/
import Derived.Test.YtllgmpejmagndaaGreatDoorA4
namespace Go.Abs
open Go.Proofs
set_option autoImplicit false
set_option linter.all false
attribute [local simp ↓] put_at AF.ev_tmp ex_cons ex_nil ex_box ex_assign AF.ev_int AF.ev_bool ex_load ex_call AF.ev_func ex_unOp ex_move ex_guard ex_fieldAddr ex_binOp ex_pick ex_convert ex_extract ex_len ex_build ex_alloc ex_store
attribute [local simp] abox frame0 nx2 nx3 nx2' bump_setBox setBox_setBox beq_bytes wrap_nn int_beq int_bne DVal.row DOp.row DLook.row DFlat.row DType.row DNeed.row DCell.row eq42 aload partOf aUn aFieldAddr aBin aBinV aConvert aExtract aLen aBuild aBuild.go splice aalloc astore AS.Ext.refl AS.Ext.bump AS.Ext.setBox AS.Ext.kill AS.Ext.setMap
def numberV (v : DVal) : Int × Bool := if mayV v = true then (if v.kind = 18 then (if mayV ({ kind := 18, bits := v.bits, text := v.text } : DVal) = true then (0, false) else (0, false)) else if v.kind = 19 then (0, false) else if unsignedB v.kind = true then (if 9223372036854775807 < v.bits then (0, false) else ((IntKind.wrap .i64 v.bits), true)) else if rowB v.kind = true then (if 9223372036854775807 < v.bits then (0, false) else ((IntKind.wrap .i64 v.bits), true)) else ((IntKind.wrap .i64 v.bits), true)) else (0, false)
set_option maxRecDepth 100000 in
set_option maxHeartbeats 4000000 in
theorem numberVIs (H : AS) (v : DVal) : ACalls Tryz.prog 102 [.agg (v.row)] H fun q H' => q = .tuple [pi (numberV v).1, pb (numberV v).2] ∧ H' = H := by
 refine ACalls_intro Tryz.func102 rfl (by kernel_rfl) (by simp) fun hwf hbel => ?_
 refine T_sr fun K0 hK0 => ?_
 simp
 refine hK0 _ _ ?_
 try clear hK0 K0
 refine T_seqk fun K1 hK1 => ?_
 refine T_block ?_
 refine T_seqk fun K2 hK2 => ?_
 by_cases h0 : mayV v = true
 by_cases h1 : v.kind = 18
 by_cases h2 : mayV ({ kind := 18, bits := v.bits, text := v.text } : DVal) = true
 refine T_rg ?_
 simp [h0, h1, h2]
 refine callK.of (mayVIs _ ({ kind := 18, bits := v.bits, text := v.text } : DVal)) ?_
 rintro _ Hz ⟨rfl, hz⟩
 subst Hz
 simp [h0, h1, h2]
 refine hK2 _ _ ?_
 try clear hK2 K2
 refine T_condT (by first | rfl | simp [h0, h1, h2]) ?_
 refine T_sr fun K3 hK3 => ?_
 simp [h0, h1, h2]
 refine hK3 _ _ ?_
 try clear hK3 K3
 refine T_ret ?_
 try simp only [tR, bR, lR]
 exact owes_two (.inr rfl) hwf rfl (by rw [show numberV v = (0, false) from by simp only [numberV, if_pos h0, if_pos h1, if_pos h2]] <;> simp [h0, h1, h2]) (by simp (maxDischargeDepth := 20)) (by simp) (by simp)
 refine T_rg ?_
 simp [h0, h1, h2]
 refine callK.of (mayVIs _ ({ kind := 18, bits := v.bits, text := v.text } : DVal)) ?_
 rintro _ Hz ⟨rfl, hz⟩
 subst Hz
 simp [h0, h1, h2]
 refine hK2 _ _ ?_
 try clear hK2 K2
 refine T_condT (by first | rfl | simp [h0, h1, h2]) ?_
 refine T_sr fun K4 hK4 => ?_
 simp [h0, h1, h2]
 refine hK4 _ _ ?_
 try clear hK4 K4
 refine T_ret ?_
 try simp only [tR, bR, lR]
 exact owes_two (.inr rfl) hwf rfl (by rw [show numberV v = (0, false) from by simp only [numberV, if_pos h0, if_pos h1, if_neg h2]] <;> simp [h0, h1, h2]) (by simp (maxDischargeDepth := 20)) (by simp) (by simp)
 refine T_rg ?_
 simp [h0, h1]
 refine callK.of (mayVIs _ v) ?_
 rintro _ Hz ⟨rfl, hz⟩
 subst Hz
 simp [h0, h1]
 refine hK2 _ _ ?_
 try clear hK2 K2
 by_cases h3 : v.kind = 19
 refine T_condT (by first | rfl | simp [h0, h1, h3]) ?_
 refine T_sr fun K5 hK5 => ?_
 simp [h0, h1, h3]
 refine hK5 _ _ ?_
 try clear hK5 K5
 refine T_ret ?_
 try simp only [tR, bR, lR]
 exact owes_two (.inr rfl) hwf rfl (by rw [show numberV v = (0, false) from by simp only [numberV, if_pos h0, if_neg h1, if_pos h3]] <;> simp [h0, h1, h3]) (by simp (maxDischargeDepth := 20)) (by simp) (by simp)
 refine T_condF (by first | rfl | simp [h0, h1, h3]) ?_
 refine T_seqk fun K6 hK6 => ?_
 by_cases h4 : unsignedB v.kind = true
 refine T_rg ?_
 simp [h0, h1, h3, h4]
 refine callK.of (unsignedIs _ v.kind) ?_
 rintro _ Hz ⟨rfl, hz⟩
 subst Hz
 simp [h0, h1, h3, h4]
 refine hK6 _ _ ?_
 try clear hK6 K6
 by_cases h5 : 9223372036854775807 < v.bits
 refine T_condT (by first | rfl | simp [h0, h1, h3, h4, h5]) ?_
 refine T_sr fun K7 hK7 => ?_
 simp [h0, h1, h3, h4, h5]
 refine hK7 _ _ ?_
 try clear hK7 K7
 refine T_ret ?_
 try simp only [tR, bR, lR]
 exact owes_two (.inr rfl) hwf rfl (by rw [show numberV v = (0, false) from by simp only [numberV, if_pos h0, if_neg h1, if_neg h3, if_pos h4, if_pos h5]] <;> simp [h0, h1, h3, h4, h5]) (by simp (maxDischargeDepth := 20)) (by simp) (by simp)
 refine T_condF (by first | rfl | simp [h0, h1, h3, h4, h5]) ?_
 refine T_skip ?_
 try simp only [tN, bN, lN]
 refine hK1 _ _ ?_
 try clear hK1 K1
 refine T_sr fun K8 hK8 => ?_
 simp [h0, h1, h3, h4, h5]
 refine hK8 _ _ ?_
 try clear hK8 K8
 refine T_ret ?_
 try simp only [tR, bR, lR]
 exact owes_two (.inr rfl) hwf rfl (by rw [show numberV v = ((IntKind.wrap .i64 v.bits), true) from by simp only [numberV, if_pos h0, if_neg h1, if_neg h3, if_pos h4, if_neg h5]] <;> simp [h0, h1, h3, h4, h5]) (by simp (maxDischargeDepth := 20)) (by simp) (by simp)
 by_cases h6 : rowB v.kind = true
 refine T_rg ?_
 simp [h0, h1, h3, h4, h6]
 refine callK.of (unsignedIs _ v.kind) ?_
 rintro _ Hz ⟨rfl, hz⟩
 subst Hz
 simp [h0, h1, h3, h4, h6]
 refine callK.of (rowIs _ v.kind) ?_
 rintro _ Hz ⟨rfl, hz⟩
 subst Hz
 simp [h0, h1, h3, h4, h6]
 refine hK6 _ _ ?_
 try clear hK6 K6
 by_cases h7 : 9223372036854775807 < v.bits
 refine T_condT (by first | rfl | simp [h0, h1, h3, h4, h6, h7]) ?_
 refine T_sr fun K9 hK9 => ?_
 simp [h0, h1, h3, h4, h6, h7]
 refine hK9 _ _ ?_
 try clear hK9 K9
 refine T_ret ?_
 try simp only [tR, bR, lR]
 exact owes_two (.inr rfl) hwf rfl (by rw [show numberV v = (0, false) from by simp only [numberV, if_pos h0, if_neg h1, if_neg h3, if_neg h4, if_pos h6, if_pos h7]] <;> simp [h0, h1, h3, h4, h6, h7]) (by simp (maxDischargeDepth := 20)) (by simp) (by simp)
 refine T_condF (by first | rfl | simp [h0, h1, h3, h4, h6, h7]) ?_
 refine T_skip ?_
 try simp only [tN, bN, lN]
 refine hK1 _ _ ?_
 try clear hK1 K1
 refine T_sr fun K10 hK10 => ?_
 simp [h0, h1, h3, h4, h6, h7]
 refine hK10 _ _ ?_
 try clear hK10 K10
 refine T_ret ?_
 try simp only [tR, bR, lR]
 exact owes_two (.inr rfl) hwf rfl (by rw [show numberV v = ((IntKind.wrap .i64 v.bits), true) from by simp only [numberV, if_pos h0, if_neg h1, if_neg h3, if_neg h4, if_pos h6, if_neg h7]] <;> simp [h0, h1, h3, h4, h6, h7]) (by simp (maxDischargeDepth := 20)) (by simp) (by simp)
 refine T_rg ?_
 simp [h0, h1, h3, h4, h6]
 refine callK.of (unsignedIs _ v.kind) ?_
 rintro _ Hz ⟨rfl, hz⟩
 subst Hz
 simp [h0, h1, h3, h4, h6]
 refine callK.of (rowIs _ v.kind) ?_
 rintro _ Hz ⟨rfl, hz⟩
 subst Hz
 simp [h0, h1, h3, h4, h6]
 refine hK6 _ _ ?_
 try clear hK6 K6
 refine T_condF (by first | rfl | simp [h0, h1, h3, h4, h6]) ?_
 refine T_skip ?_
 try simp only [tN, bN, lN]
 refine hK1 _ _ ?_
 try clear hK1 K1
 refine T_sr fun K11 hK11 => ?_
 simp [h0, h1, h3, h4, h6]
 refine hK11 _ _ ?_
 try clear hK11 K11
 refine T_ret ?_
 try simp only [tR, bR, lR]
 exact owes_two (.inr rfl) hwf rfl (by rw [show numberV v = ((IntKind.wrap .i64 v.bits), true) from by simp only [numberV, if_pos h0, if_neg h1, if_neg h3, if_neg h4, if_neg h6]] <;> simp [h0, h1, h3, h4, h6]) (by simp (maxDischargeDepth := 20)) (by simp) (by simp)
 refine T_rg ?_
 simp [h0]
 refine callK.of (mayVIs _ v) ?_
 rintro _ Hz ⟨rfl, hz⟩
 subst Hz
 simp [h0]
 refine hK2 _ _ ?_
 try clear hK2 K2
 refine T_condT (by first | rfl | simp [h0]) ?_
 refine T_sr fun K12 hK12 => ?_
 simp [h0]
 refine hK12 _ _ ?_
 try clear hK12 K12
 refine T_ret ?_
 try simp only [tR, bR, lR]
 exact owes_two (.inr rfl) hwf rfl (by rw [show numberV v = (0, false) from by simp only [numberV, if_neg h0]] <;> simp [h0]) (by simp (maxDischargeDepth := 20)) (by simp) (by simp)
def fitsT (t : DType) (v : DVal) : Int := if t.max < 1 then (if mayV v = true then (if v.kind = t.kind then (if t.sub = true then (if wholeB t.kind = true then (if (numberV ({ kind := t.kind, bits := v.bits, text := v.text } : DVal)).2 = true then (if (numberV ({ kind := t.kind, bits := v.bits, text := v.text } : DVal)).1 < t.lo then 3 else if t.hi < (numberV ({ kind := t.kind, bits := v.bits, text := v.text } : DVal)).1 then 3 else 0) else 3) else if t.kind = 19 then (if 254 < (v.text.size : Int) then 5 else 0) else 0) else if t.kind = 19 then (if 254 < (v.text.size : Int) then 5 else 0) else 0) else 8) else 8) else if mayV v = true then (if v.kind = t.kind then (if t.sub = true then (if wholeB t.kind = true then (if (numberV ({ kind := t.kind, bits := v.bits, text := v.text } : DVal)).2 = true then (if (numberV ({ kind := t.kind, bits := v.bits, text := v.text } : DVal)).1 < t.lo then 3 else if t.hi < (numberV ({ kind := t.kind, bits := v.bits, text := v.text } : DVal)).1 then 3 else 0) else 3) else if t.kind = 19 then (if t.max < (v.text.size : Int) then 5 else 0) else 0) else if t.kind = 19 then (if t.max < (v.text.size : Int) then 5 else 0) else 0) else 8) else 8
set_option maxRecDepth 100000 in
set_option maxHeartbeats 4000000 in
theorem fitsTIs (H : AS) (t : DType) (v : DVal) : ACalls Tryz.prog 80 [.agg (t.row), .agg (v.row)] H fun q H' => q = pi (fitsT t v) ∧ H' = H := by
 refine ACalls_intro Tryz.func80 rfl (by kernel_rfl) (by simp) fun hwf hbel => ?_
 refine T_sr fun K0 hK0 => ?_
 simp
 refine hK0 _ _ ?_
 try clear hK0 K0
 refine T_sr fun K1 hK1 => ?_
 simp
 refine hK1 _ _ ?_
 try clear hK1 K1
 refine T_seqk fun K2 hK2 => ?_
 refine T_sr fun K3 hK3 => ?_
 simp
 refine hK3 _ _ ?_
 try clear hK3 K3
 by_cases h0 : t.max < 1
 refine T_condT (by first | rfl | simp [h0]) ?_
 refine T_rg ?_
 simp [h0]
 refine hK2 _ _ ?_
 try clear hK2 K2
 refine T_seqk fun K4 hK4 => ?_
 refine T_block ?_
 refine T_seqk fun K5 hK5 => ?_
 by_cases h1 : mayV v = true
 refine T_rg ?_
 simp [h0, h1]
 refine callK.of (mayVIs _ v) ?_
 rintro _ Hz ⟨rfl, hz⟩
 subst Hz
 simp [h0, h1]
 refine hK5 _ _ ?_
 try clear hK5 K5
 by_cases h2 : v.kind = t.kind
 refine T_condF (by first | rfl | simp [h0, h1, h2]) ?_
 refine T_seqk fun K6 hK6 => ?_
 by_cases h3 : t.sub = true
 refine T_rg ?_
 simp [h0, h1, h2, h3]
 refine callK.of (wholeIs _ t.kind) ?_
 rintro _ Hz ⟨rfl, hz⟩
 subst Hz
 simp [h0, h1, h2, h3]
 refine hK6 _ _ ?_
 try clear hK6 K6
 by_cases h4 : wholeB t.kind = true
 refine T_condT (by first | rfl | simp [h0, h1, h2, h3, h4]) ?_
 refine T_sr fun K7 hK7 => ?_
 simp [h0, h1, h2, h3, h4]
 refine callK.of (numberVIs _ ({ kind := t.kind, bits := v.bits, text := v.text } : DVal)) ?_
 rintro _ Hz ⟨rfl, hz⟩
 subst Hz
 simp [h0, h1, h2, h3, h4]
 refine hK7 _ _ ?_
 try clear hK7 K7
 refine T_seqk fun K8 hK8 => ?_
 by_cases h5 : (numberV ({ kind := t.kind, bits := v.bits, text := v.text } : DVal)).2 = true
 by_cases h6 : (numberV ({ kind := t.kind, bits := v.bits, text := v.text } : DVal)).1 < t.lo
 refine T_rg ?_
 simp [h0, h1, h2, h3, h4, h5, h6]
 refine hK8 _ _ ?_
 try clear hK8 K8
 refine T_condT (by first | rfl | simp [h0, h1, h2, h3, h4, h5, h6]) ?_
 refine T_sr fun K9 hK9 => ?_
 simp [h0, h1, h2, h3, h4, h5, h6]
 refine hK9 _ _ ?_
 try clear hK9 K9
 refine T_ret ?_
 try simp only [tR, bR, lR]
 exact owes_one (.inr rfl) hwf rfl (by rw [show fitsT t v = 3 from by simp only [fitsT, if_pos h0, if_pos h1, if_pos h2, if_pos h3, if_pos h4, if_pos h5, if_pos h6]] <;> simp [h0, h1, h2, h3, h4, h5, h6]) (by simp (maxDischargeDepth := 20)) (by simp) (by simp)
 refine T_rg ?_
 simp [h0, h1, h2, h3, h4, h5, h6]
 refine hK8 _ _ ?_
 try clear hK8 K8
 by_cases h7 : t.hi < (numberV ({ kind := t.kind, bits := v.bits, text := v.text } : DVal)).1
 refine T_condT (by first | rfl | simp [h0, h1, h2, h3, h4, h5, h6, h7]) ?_
 refine T_sr fun K10 hK10 => ?_
 simp [h0, h1, h2, h3, h4, h5, h6, h7]
 refine hK10 _ _ ?_
 try clear hK10 K10
 refine T_ret ?_
 try simp only [tR, bR, lR]
 exact owes_one (.inr rfl) hwf rfl (by rw [show fitsT t v = 3 from by simp only [fitsT, if_pos h0, if_pos h1, if_pos h2, if_pos h3, if_pos h4, if_pos h5, if_neg h6, if_pos h7]] <;> simp [h0, h1, h2, h3, h4, h5, h6, h7]) (by simp (maxDischargeDepth := 20)) (by simp) (by simp)
 refine T_condF (by first | rfl | simp [h0, h1, h2, h3, h4, h5, h6, h7]) ?_
 refine T_skip ?_
 try simp only [tN, bN, lN]
 refine hK4 _ _ ?_
 try clear hK4 K4
 refine T_sr fun K11 hK11 => ?_
 simp [h0, h1, h2, h3, h4, h5, h6, h7]
 refine hK11 _ _ ?_
 try clear hK11 K11
 refine T_ret ?_
 try simp only [tR, bR, lR]
 exact owes_one (.inr rfl) hwf rfl (by rw [show fitsT t v = 0 from by simp only [fitsT, if_pos h0, if_pos h1, if_pos h2, if_pos h3, if_pos h4, if_pos h5, if_neg h6, if_neg h7]] <;> simp [h0, h1, h2, h3, h4, h5, h6, h7]) (by simp (maxDischargeDepth := 20)) (by simp) (by simp)
 refine T_rg ?_
 simp [h0, h1, h2, h3, h4, h5]
 refine hK8 _ _ ?_
 try clear hK8 K8
 refine T_condT (by first | rfl | simp [h0, h1, h2, h3, h4, h5]) ?_
 refine T_sr fun K12 hK12 => ?_
 simp [h0, h1, h2, h3, h4, h5]
 refine hK12 _ _ ?_
 try clear hK12 K12
 refine T_ret ?_
 try simp only [tR, bR, lR]
 exact owes_one (.inr rfl) hwf rfl (by rw [show fitsT t v = 3 from by simp only [fitsT, if_pos h0, if_pos h1, if_pos h2, if_pos h3, if_pos h4, if_neg h5]] <;> simp [h0, h1, h2, h3, h4, h5]) (by simp (maxDischargeDepth := 20)) (by simp) (by simp)
 refine T_condF (by first | rfl | simp [h0, h1, h2, h3, h4]) ?_
 refine T_seqk fun K13 hK13 => ?_
 by_cases h8 : t.kind = 19
 refine T_rg ?_
 simp [h0, h1, h2, h3, h4, h8]
 refine hK13 _ _ ?_
 try clear hK13 K13
 by_cases h9 : 254 < (v.text.size : Int)
 refine T_condT (by first | rfl | simp [h0, h1, h2, h3, h4, h8, h9]) ?_
 refine T_sr fun K14 hK14 => ?_
 simp [h0, h1, h2, h3, h4, h8, h9]
 refine hK14 _ _ ?_
 try clear hK14 K14
 refine T_ret ?_
 try simp only [tR, bR, lR]
 exact owes_one (.inr rfl) hwf rfl (by rw [show fitsT t v = 5 from by simp only [fitsT, if_pos h0, if_pos h1, if_pos h2, if_pos h3, if_neg h4, if_pos h8, if_pos h9]] <;> simp [h0, h1, h2, h3, h4, h8, h9]) (by simp (maxDischargeDepth := 20)) (by simp) (by simp)
 refine T_condF (by first | rfl | simp [h0, h1, h2, h3, h4, h8, h9]) ?_
 refine T_skip ?_
 try simp only [tN, bN, lN]
 refine hK4 _ _ ?_
 try clear hK4 K4
 refine T_sr fun K15 hK15 => ?_
 simp [h0, h1, h2, h3, h4, h8, h9]
 refine hK15 _ _ ?_
 try clear hK15 K15
 refine T_ret ?_
 try simp only [tR, bR, lR]
 exact owes_one (.inr rfl) hwf rfl (by rw [show fitsT t v = 0 from by simp only [fitsT, if_pos h0, if_pos h1, if_pos h2, if_pos h3, if_neg h4, if_pos h8, if_neg h9]] <;> simp [h0, h1, h2, h3, h4, h8, h9]) (by simp (maxDischargeDepth := 20)) (by simp) (by simp)
 refine T_rg ?_
 simp [h0, h1, h2, h3, h4, h8]
 refine hK13 _ _ ?_
 try clear hK13 K13
 refine T_condF (by first | rfl | simp [h0, h1, h2, h3, h4, h8]) ?_
 refine T_skip ?_
 try simp only [tN, bN, lN]
 refine hK4 _ _ ?_
 try clear hK4 K4
 refine T_sr fun K16 hK16 => ?_
 simp [h0, h1, h2, h3, h4, h8]
 refine hK16 _ _ ?_
 try clear hK16 K16
 refine T_ret ?_
 try simp only [tR, bR, lR]
 exact owes_one (.inr rfl) hwf rfl (by rw [show fitsT t v = 0 from by simp only [fitsT, if_pos h0, if_pos h1, if_pos h2, if_pos h3, if_neg h4, if_neg h8]] <;> simp [h0, h1, h2, h3, h4, h8]) (by simp (maxDischargeDepth := 20)) (by simp) (by simp)
 refine T_rg ?_
 simp [h0, h1, h2, h3]
 refine hK6 _ _ ?_
 try clear hK6 K6
 refine T_condF (by first | rfl | simp [h0, h1, h2, h3]) ?_
 refine T_seqk fun K17 hK17 => ?_
 by_cases h10 : t.kind = 19
 refine T_rg ?_
 simp [h0, h1, h2, h3, h10]
 refine hK17 _ _ ?_
 try clear hK17 K17
 by_cases h11 : 254 < (v.text.size : Int)
 refine T_condT (by first | rfl | simp [h0, h1, h2, h3, h10, h11]) ?_
 refine T_sr fun K18 hK18 => ?_
 simp [h0, h1, h2, h3, h10, h11]
 refine hK18 _ _ ?_
 try clear hK18 K18
 refine T_ret ?_
 try simp only [tR, bR, lR]
 exact owes_one (.inr rfl) hwf rfl (by rw [show fitsT t v = 5 from by simp only [fitsT, if_pos h0, if_pos h1, if_pos h2, if_neg h3, if_pos h10, if_pos h11]] <;> simp [h0, h1, h2, h3, h10, h11]) (by simp (maxDischargeDepth := 20)) (by simp) (by simp)
 refine T_condF (by first | rfl | simp [h0, h1, h2, h3, h10, h11]) ?_
 refine T_skip ?_
 try simp only [tN, bN, lN]
 refine hK4 _ _ ?_
 try clear hK4 K4
 refine T_sr fun K19 hK19 => ?_
 simp [h0, h1, h2, h3, h10, h11]
 refine hK19 _ _ ?_
 try clear hK19 K19
 refine T_ret ?_
 try simp only [tR, bR, lR]
 exact owes_one (.inr rfl) hwf rfl (by rw [show fitsT t v = 0 from by simp only [fitsT, if_pos h0, if_pos h1, if_pos h2, if_neg h3, if_pos h10, if_neg h11]] <;> simp [h0, h1, h2, h3, h10, h11]) (by simp (maxDischargeDepth := 20)) (by simp) (by simp)
 refine T_rg ?_
 simp [h0, h1, h2, h3, h10]
 refine hK17 _ _ ?_
 try clear hK17 K17
 refine T_condF (by first | rfl | simp [h0, h1, h2, h3, h10]) ?_
 refine T_skip ?_
 try simp only [tN, bN, lN]
 refine hK4 _ _ ?_
 try clear hK4 K4
 refine T_sr fun K20 hK20 => ?_
 simp [h0, h1, h2, h3, h10]
 refine hK20 _ _ ?_
 try clear hK20 K20
 refine T_ret ?_
 try simp only [tR, bR, lR]
 exact owes_one (.inr rfl) hwf rfl (by rw [show fitsT t v = 0 from by simp only [fitsT, if_pos h0, if_pos h1, if_pos h2, if_neg h3, if_neg h10]] <;> simp [h0, h1, h2, h3, h10]) (by simp (maxDischargeDepth := 20)) (by simp) (by simp)
 refine T_condT (by first | rfl | simp [h0, h1, h2]) ?_
 refine T_sr fun K21 hK21 => ?_
 simp [h0, h1, h2]
 refine hK21 _ _ ?_
 try clear hK21 K21
 refine T_ret ?_
 try simp only [tR, bR, lR]
 exact owes_one (.inr rfl) hwf rfl (by rw [show fitsT t v = 8 from by simp only [fitsT, if_pos h0, if_pos h1, if_neg h2]] <;> simp [h0, h1, h2]) (by simp (maxDischargeDepth := 20)) (by simp) (by simp)
 refine T_rg ?_
 simp [h0, h1]
 refine callK.of (mayVIs _ v) ?_
 rintro _ Hz ⟨rfl, hz⟩
 subst Hz
 simp [h0, h1]
 refine hK5 _ _ ?_
 try clear hK5 K5
 refine T_condT (by first | rfl | simp [h0, h1]) ?_
 refine T_sr fun K22 hK22 => ?_
 simp [h0, h1]
 refine hK22 _ _ ?_
 try clear hK22 K22
 refine T_ret ?_
 try simp only [tR, bR, lR]
 exact owes_one (.inr rfl) hwf rfl (by rw [show fitsT t v = 8 from by simp only [fitsT, if_pos h0, if_neg h1]] <;> simp [h0, h1]) (by simp (maxDischargeDepth := 20)) (by simp) (by simp)
 refine T_condF (by first | rfl | simp [h0]) ?_
 refine T_skip ?_
 try simp only [tN, bN, lN]
 refine hK2 _ _ ?_
 try clear hK2 K2
 refine T_seqk fun K23 hK23 => ?_
 refine T_block ?_
 refine T_seqk fun K24 hK24 => ?_
 by_cases h12 : mayV v = true
 refine T_rg ?_
 simp [h0, h12]
 refine callK.of (mayVIs _ v) ?_
 rintro _ Hz ⟨rfl, hz⟩
 subst Hz
 simp [h0, h12]
 refine hK24 _ _ ?_
 try clear hK24 K24
 by_cases h13 : v.kind = t.kind
 refine T_condF (by first | rfl | simp [h0, h12, h13]) ?_
 refine T_seqk fun K25 hK25 => ?_
 by_cases h14 : t.sub = true
 refine T_rg ?_
 simp [h0, h12, h13, h14]
 refine callK.of (wholeIs _ t.kind) ?_
 rintro _ Hz ⟨rfl, hz⟩
 subst Hz
 simp [h0, h12, h13, h14]
 refine hK25 _ _ ?_
 try clear hK25 K25
 by_cases h15 : wholeB t.kind = true
 refine T_condT (by first | rfl | simp [h0, h12, h13, h14, h15]) ?_
 refine T_sr fun K26 hK26 => ?_
 simp [h0, h12, h13, h14, h15]
 refine callK.of (numberVIs _ ({ kind := t.kind, bits := v.bits, text := v.text } : DVal)) ?_
 rintro _ Hz ⟨rfl, hz⟩
 subst Hz
 simp [h0, h12, h13, h14, h15]
 refine hK26 _ _ ?_
 try clear hK26 K26
 refine T_seqk fun K27 hK27 => ?_
 by_cases h16 : (numberV ({ kind := t.kind, bits := v.bits, text := v.text } : DVal)).2 = true
 by_cases h17 : (numberV ({ kind := t.kind, bits := v.bits, text := v.text } : DVal)).1 < t.lo
 refine T_rg ?_
 simp [h0, h12, h13, h14, h15, h16, h17]
 refine hK27 _ _ ?_
 try clear hK27 K27
 refine T_condT (by first | rfl | simp [h0, h12, h13, h14, h15, h16, h17]) ?_
 refine T_sr fun K28 hK28 => ?_
 simp [h0, h12, h13, h14, h15, h16, h17]
 refine hK28 _ _ ?_
 try clear hK28 K28
 refine T_ret ?_
 try simp only [tR, bR, lR]
 exact owes_one (.inr rfl) hwf rfl (by rw [show fitsT t v = 3 from by simp only [fitsT, if_neg h0, if_pos h12, if_pos h13, if_pos h14, if_pos h15, if_pos h16, if_pos h17]] <;> simp [h0, h12, h13, h14, h15, h16, h17]) (by simp (maxDischargeDepth := 20)) (by simp) (by simp)
 refine T_rg ?_
 simp [h0, h12, h13, h14, h15, h16, h17]
 refine hK27 _ _ ?_
 try clear hK27 K27
 by_cases h18 : t.hi < (numberV ({ kind := t.kind, bits := v.bits, text := v.text } : DVal)).1
 refine T_condT (by first | rfl | simp [h0, h12, h13, h14, h15, h16, h17, h18]) ?_
 refine T_sr fun K29 hK29 => ?_
 simp [h0, h12, h13, h14, h15, h16, h17, h18]
 refine hK29 _ _ ?_
 try clear hK29 K29
 refine T_ret ?_
 try simp only [tR, bR, lR]
 exact owes_one (.inr rfl) hwf rfl (by rw [show fitsT t v = 3 from by simp only [fitsT, if_neg h0, if_pos h12, if_pos h13, if_pos h14, if_pos h15, if_pos h16, if_neg h17, if_pos h18]] <;> simp [h0, h12, h13, h14, h15, h16, h17, h18]) (by simp (maxDischargeDepth := 20)) (by simp) (by simp)
 refine T_condF (by first | rfl | simp [h0, h12, h13, h14, h15, h16, h17, h18]) ?_
 refine T_skip ?_
 try simp only [tN, bN, lN]
 refine hK23 _ _ ?_
 try clear hK23 K23
 refine T_sr fun K30 hK30 => ?_
 simp [h0, h12, h13, h14, h15, h16, h17, h18]
 refine hK30 _ _ ?_
 try clear hK30 K30
 refine T_ret ?_
 try simp only [tR, bR, lR]
 exact owes_one (.inr rfl) hwf rfl (by rw [show fitsT t v = 0 from by simp only [fitsT, if_neg h0, if_pos h12, if_pos h13, if_pos h14, if_pos h15, if_pos h16, if_neg h17, if_neg h18]] <;> simp [h0, h12, h13, h14, h15, h16, h17, h18]) (by simp (maxDischargeDepth := 20)) (by simp) (by simp)
 refine T_rg ?_
 simp [h0, h12, h13, h14, h15, h16]
 refine hK27 _ _ ?_
 try clear hK27 K27
 refine T_condT (by first | rfl | simp [h0, h12, h13, h14, h15, h16]) ?_
 refine T_sr fun K31 hK31 => ?_
 simp [h0, h12, h13, h14, h15, h16]
 refine hK31 _ _ ?_
 try clear hK31 K31
 refine T_ret ?_
 try simp only [tR, bR, lR]
 exact owes_one (.inr rfl) hwf rfl (by rw [show fitsT t v = 3 from by simp only [fitsT, if_neg h0, if_pos h12, if_pos h13, if_pos h14, if_pos h15, if_neg h16]] <;> simp [h0, h12, h13, h14, h15, h16]) (by simp (maxDischargeDepth := 20)) (by simp) (by simp)
 refine T_condF (by first | rfl | simp [h0, h12, h13, h14, h15]) ?_
 refine T_seqk fun K32 hK32 => ?_
 by_cases h19 : t.kind = 19
 refine T_rg ?_
 simp [h0, h12, h13, h14, h15, h19]
 refine hK32 _ _ ?_
 try clear hK32 K32
 by_cases h20 : t.max < (v.text.size : Int)
 refine T_condT (by first | rfl | simp [h0, h12, h13, h14, h15, h19, h20]) ?_
 refine T_sr fun K33 hK33 => ?_
 simp [h0, h12, h13, h14, h15, h19, h20]
 refine hK33 _ _ ?_
 try clear hK33 K33
 refine T_ret ?_
 try simp only [tR, bR, lR]
 exact owes_one (.inr rfl) hwf rfl (by rw [show fitsT t v = 5 from by simp only [fitsT, if_neg h0, if_pos h12, if_pos h13, if_pos h14, if_neg h15, if_pos h19, if_pos h20]] <;> simp [h0, h12, h13, h14, h15, h19, h20]) (by simp (maxDischargeDepth := 20)) (by simp) (by simp)
 refine T_condF (by first | rfl | simp [h0, h12, h13, h14, h15, h19, h20]) ?_
 refine T_skip ?_
 try simp only [tN, bN, lN]
 refine hK23 _ _ ?_
 try clear hK23 K23
 refine T_sr fun K34 hK34 => ?_
 simp [h0, h12, h13, h14, h15, h19, h20]
 refine hK34 _ _ ?_
 try clear hK34 K34
 refine T_ret ?_
 try simp only [tR, bR, lR]
 exact owes_one (.inr rfl) hwf rfl (by rw [show fitsT t v = 0 from by simp only [fitsT, if_neg h0, if_pos h12, if_pos h13, if_pos h14, if_neg h15, if_pos h19, if_neg h20]] <;> simp [h0, h12, h13, h14, h15, h19, h20]) (by simp (maxDischargeDepth := 20)) (by simp) (by simp)
 refine T_rg ?_
 simp [h0, h12, h13, h14, h15, h19]
 refine hK32 _ _ ?_
 try clear hK32 K32
 refine T_condF (by first | rfl | simp [h0, h12, h13, h14, h15, h19]) ?_
 refine T_skip ?_
 try simp only [tN, bN, lN]
 refine hK23 _ _ ?_
 try clear hK23 K23
 refine T_sr fun K35 hK35 => ?_
 simp [h0, h12, h13, h14, h15, h19]
 refine hK35 _ _ ?_
 try clear hK35 K35
 refine T_ret ?_
 try simp only [tR, bR, lR]
 exact owes_one (.inr rfl) hwf rfl (by rw [show fitsT t v = 0 from by simp only [fitsT, if_neg h0, if_pos h12, if_pos h13, if_pos h14, if_neg h15, if_neg h19]] <;> simp [h0, h12, h13, h14, h15, h19]) (by simp (maxDischargeDepth := 20)) (by simp) (by simp)
 refine T_rg ?_
 simp [h0, h12, h13, h14]
 refine hK25 _ _ ?_
 try clear hK25 K25
 refine T_condF (by first | rfl | simp [h0, h12, h13, h14]) ?_
 refine T_seqk fun K36 hK36 => ?_
 by_cases h21 : t.kind = 19
 refine T_rg ?_
 simp [h0, h12, h13, h14, h21]
 refine hK36 _ _ ?_
 try clear hK36 K36
 by_cases h22 : t.max < (v.text.size : Int)
 refine T_condT (by first | rfl | simp [h0, h12, h13, h14, h21, h22]) ?_
 refine T_sr fun K37 hK37 => ?_
 simp [h0, h12, h13, h14, h21, h22]
 refine hK37 _ _ ?_
 try clear hK37 K37
 refine T_ret ?_
 try simp only [tR, bR, lR]
 exact owes_one (.inr rfl) hwf rfl (by rw [show fitsT t v = 5 from by simp only [fitsT, if_neg h0, if_pos h12, if_pos h13, if_neg h14, if_pos h21, if_pos h22]] <;> simp [h0, h12, h13, h14, h21, h22]) (by simp (maxDischargeDepth := 20)) (by simp) (by simp)
 refine T_condF (by first | rfl | simp [h0, h12, h13, h14, h21, h22]) ?_
 refine T_skip ?_
 try simp only [tN, bN, lN]
 refine hK23 _ _ ?_
 try clear hK23 K23
 refine T_sr fun K38 hK38 => ?_
 simp [h0, h12, h13, h14, h21, h22]
 refine hK38 _ _ ?_
 try clear hK38 K38
 refine T_ret ?_
 try simp only [tR, bR, lR]
 exact owes_one (.inr rfl) hwf rfl (by rw [show fitsT t v = 0 from by simp only [fitsT, if_neg h0, if_pos h12, if_pos h13, if_neg h14, if_pos h21, if_neg h22]] <;> simp [h0, h12, h13, h14, h21, h22]) (by simp (maxDischargeDepth := 20)) (by simp) (by simp)
 refine T_rg ?_
 simp [h0, h12, h13, h14, h21]
 refine hK36 _ _ ?_
 try clear hK36 K36
 refine T_condF (by first | rfl | simp [h0, h12, h13, h14, h21]) ?_
 refine T_skip ?_
 try simp only [tN, bN, lN]
 refine hK23 _ _ ?_
 try clear hK23 K23
 refine T_sr fun K39 hK39 => ?_
 simp [h0, h12, h13, h14, h21]
 refine hK39 _ _ ?_
 try clear hK39 K39
 refine T_ret ?_
 try simp only [tR, bR, lR]
 exact owes_one (.inr rfl) hwf rfl (by rw [show fitsT t v = 0 from by simp only [fitsT, if_neg h0, if_pos h12, if_pos h13, if_neg h14, if_neg h21]] <;> simp [h0, h12, h13, h14, h21]) (by simp (maxDischargeDepth := 20)) (by simp) (by simp)
 refine T_condT (by first | rfl | simp [h0, h12, h13]) ?_
 refine T_sr fun K40 hK40 => ?_
 simp [h0, h12, h13]
 refine hK40 _ _ ?_
 try clear hK40 K40
 refine T_ret ?_
 try simp only [tR, bR, lR]
 exact owes_one (.inr rfl) hwf rfl (by rw [show fitsT t v = 8 from by simp only [fitsT, if_neg h0, if_pos h12, if_neg h13]] <;> simp [h0, h12, h13]) (by simp (maxDischargeDepth := 20)) (by simp) (by simp)
 refine T_rg ?_
 simp [h0, h12]
 refine callK.of (mayVIs _ v) ?_
 rintro _ Hz ⟨rfl, hz⟩
 subst Hz
 simp [h0, h12]
 refine hK24 _ _ ?_
 try clear hK24 K24
 refine T_condT (by first | rfl | simp [h0, h12]) ?_
 refine T_sr fun K41 hK41 => ?_
 simp [h0, h12]
 refine hK41 _ _ ?_
 try clear hK41 K41
 refine T_ret ?_
 try simp only [tR, bR, lR]
 exact owes_one (.inr rfl) hwf rfl (by rw [show fitsT t v = 8 from by simp only [fitsT, if_neg h0, if_neg h12]] <;> simp [h0, h12]) (by simp (maxDischargeDepth := 20)) (by simp) (by simp)
def zeroB (n : DNeed) (o : DOp) : Bool := if n.a = true then (if o.a = 0 then (if n.b = true then (if o.b = 0 then (if n.c = true then (if o.c = 0 then (if n.d = true then (if o.d = 0 then (if n.bounds = true then (if o.lo = 0 then (if o.hi = 0 then (if n.value = true then (if eqv o.value.kind o.value.bits o.value.text 0 0 ⟨#[]⟩ = true then true else false) else true) else false) else false) else if n.value = true then (if eqv o.value.kind o.value.bits o.value.text 0 0 ⟨#[]⟩ = true then true else false) else true) else false) else if n.bounds = true then (if o.lo = 0 then (if o.hi = 0 then (if n.value = true then (if eqv o.value.kind o.value.bits o.value.text 0 0 ⟨#[]⟩ = true then true else false) else true) else false) else false) else if n.value = true then (if eqv o.value.kind o.value.bits o.value.text 0 0 ⟨#[]⟩ = true then true else false) else true) else false) else if n.d = true then (if o.d = 0 then (if n.bounds = true then (if o.lo = 0 then (if o.hi = 0 then (if n.value = true then (if eqv o.value.kind o.value.bits o.value.text 0 0 ⟨#[]⟩ = true then true else false) else true) else false) else false) else if n.value = true then (if eqv o.value.kind o.value.bits o.value.text 0 0 ⟨#[]⟩ = true then true else false) else true) else false) else if n.bounds = true then (if o.lo = 0 then (if o.hi = 0 then (if n.value = true then (if eqv o.value.kind o.value.bits o.value.text 0 0 ⟨#[]⟩ = true then true else false) else true) else false) else false) else if n.value = true then (if eqv o.value.kind o.value.bits o.value.text 0 0 ⟨#[]⟩ = true then true else false) else true) else false) else if n.c = true then (if o.c = 0 then (if n.d = true then (if o.d = 0 then (if n.bounds = true then (if o.lo = 0 then (if o.hi = 0 then (if n.value = true then (if eqv o.value.kind o.value.bits o.value.text 0 0 ⟨#[]⟩ = true then true else false) else true) else false) else false) else if n.value = true then (if eqv o.value.kind o.value.bits o.value.text 0 0 ⟨#[]⟩ = true then true else false) else true) else false) else if n.bounds = true then (if o.lo = 0 then (if o.hi = 0 then (if n.value = true then (if eqv o.value.kind o.value.bits o.value.text 0 0 ⟨#[]⟩ = true then true else false) else true) else false) else false) else if n.value = true then (if eqv o.value.kind o.value.bits o.value.text 0 0 ⟨#[]⟩ = true then true else false) else true) else false) else if n.d = true then (if o.d = 0 then (if n.bounds = true then (if o.lo = 0 then (if o.hi = 0 then (if n.value = true then (if eqv o.value.kind o.value.bits o.value.text 0 0 ⟨#[]⟩ = true then true else false) else true) else false) else false) else if n.value = true then (if eqv o.value.kind o.value.bits o.value.text 0 0 ⟨#[]⟩ = true then true else false) else true) else false) else if n.bounds = true then (if o.lo = 0 then (if o.hi = 0 then (if n.value = true then (if eqv o.value.kind o.value.bits o.value.text 0 0 ⟨#[]⟩ = true then true else false) else true) else false) else false) else if n.value = true then (if eqv o.value.kind o.value.bits o.value.text 0 0 ⟨#[]⟩ = true then true else false) else true) else false) else if n.b = true then (if o.b = 0 then (if n.c = true then (if o.c = 0 then (if n.d = true then (if o.d = 0 then (if n.bounds = true then (if o.lo = 0 then (if o.hi = 0 then (if n.value = true then (if eqv o.value.kind o.value.bits o.value.text 0 0 ⟨#[]⟩ = true then true else false) else true) else false) else false) else if n.value = true then (if eqv o.value.kind o.value.bits o.value.text 0 0 ⟨#[]⟩ = true then true else false) else true) else false) else if n.bounds = true then (if o.lo = 0 then (if o.hi = 0 then (if n.value = true then (if eqv o.value.kind o.value.bits o.value.text 0 0 ⟨#[]⟩ = true then true else false) else true) else false) else false) else if n.value = true then (if eqv o.value.kind o.value.bits o.value.text 0 0 ⟨#[]⟩ = true then true else false) else true) else false) else if n.d = true then (if o.d = 0 then (if n.bounds = true then (if o.lo = 0 then (if o.hi = 0 then (if n.value = true then (if eqv o.value.kind o.value.bits o.value.text 0 0 ⟨#[]⟩ = true then true else false) else true) else false) else false) else if n.value = true then (if eqv o.value.kind o.value.bits o.value.text 0 0 ⟨#[]⟩ = true then true else false) else true) else false) else if n.bounds = true then (if o.lo = 0 then (if o.hi = 0 then (if n.value = true then (if eqv o.value.kind o.value.bits o.value.text 0 0 ⟨#[]⟩ = true then true else false) else true) else false) else false) else if n.value = true then (if eqv o.value.kind o.value.bits o.value.text 0 0 ⟨#[]⟩ = true then true else false) else true) else false) else if n.c = true then (if o.c = 0 then (if n.d = true then (if o.d = 0 then (if n.bounds = true then (if o.lo = 0 then (if o.hi = 0 then (if n.value = true then (if eqv o.value.kind o.value.bits o.value.text 0 0 ⟨#[]⟩ = true then true else false) else true) else false) else false) else if n.value = true then (if eqv o.value.kind o.value.bits o.value.text 0 0 ⟨#[]⟩ = true then true else false) else true) else false) else if n.bounds = true then (if o.lo = 0 then (if o.hi = 0 then (if n.value = true then (if eqv o.value.kind o.value.bits o.value.text 0 0 ⟨#[]⟩ = true then true else false) else true) else false) else false) else if n.value = true then (if eqv o.value.kind o.value.bits o.value.text 0 0 ⟨#[]⟩ = true then true else false) else true) else false) else if n.d = true then (if o.d = 0 then (if n.bounds = true then (if o.lo = 0 then (if o.hi = 0 then (if n.value = true then (if eqv o.value.kind o.value.bits o.value.text 0 0 ⟨#[]⟩ = true then true else false) else true) else false) else false) else if n.value = true then (if eqv o.value.kind o.value.bits o.value.text 0 0 ⟨#[]⟩ = true then true else false) else true) else false) else if n.bounds = true then (if o.lo = 0 then (if o.hi = 0 then (if n.value = true then (if eqv o.value.kind o.value.bits o.value.text 0 0 ⟨#[]⟩ = true then true else false) else true) else false) else false) else if n.value = true then (if eqv o.value.kind o.value.bits o.value.text 0 0 ⟨#[]⟩ = true then true else false) else true
set_option maxRecDepth 100000 in
set_option maxHeartbeats 4000000 in
theorem zeroIs (H : AS) (n : DNeed) (o : DOp) : ACalls Tryz.prog 110 [.agg (n.row), .agg (o.row)] H fun q H' => q = pb (zeroB n o) ∧ H' = H := by
 refine ACalls_intro Tryz.func110 rfl (by kernel_rfl) (by simp) fun hwf hbel => ?_
 refine T_sr fun K0 hK0 => ?_
 simp
 refine hK0 _ _ ?_
 try clear hK0 K0
 refine T_seqk fun K1 hK1 => ?_
 refine T_seqk fun K2 hK2 => ?_
 by_cases h0 : n.a = true
 by_cases h1 : o.a = 0
 by_cases h2 : n.b = true
 by_cases h3 : o.b = 0
 by_cases h4 : n.c = true
 by_cases h5 : o.c = 0
 by_cases h6 : n.d = true
 refine T_rg ?_
 simp [h0, h1, h2, h3, h4, h5, h6]
 refine hK2 _ _ ?_
 try clear hK2 K2
 by_cases h7 : o.d = 0
 refine T_condF (by first | rfl | simp [h0, h1, h2, h3, h4, h5, h6, h7]) ?_
 refine T_skip ?_
 try simp only [tN, bN, lN]
 refine hK1 _ _ ?_
 try clear hK1 K1
 refine T_seqk fun K3 hK3 => ?_
 by_cases h8 : n.bounds = true
 by_cases h9 : o.lo = 0
 by_cases h10 : o.hi = 0
 by_cases h11 : n.value = true
 refine T_rg ?_
 simp [h0, h1, h2, h3, h4, h5, h6, h7, h8, h9, h10, h11]
 refine hK3 _ _ ?_
 try clear hK3 K3
 refine T_ret ?_
 try simp only [tR, bR, lR]
 by_cases h12 : eqv o.value.kind o.value.bits o.value.text 0 0 ⟨#[]⟩ = true
 exact owes_one (.inr rfl) hwf rfl (by rw [show zeroB n o = true from by simp only [zeroB, if_pos h0, if_pos h1, if_pos h2, if_pos h3, if_pos h4, if_pos h5, if_pos h6, if_pos h7, if_pos h8, if_pos h9, if_pos h10, if_pos h11, if_pos h12]] <;> simp [h0, h1, h2, h3, h4, h5, h6, h7, h8, h9, h10, h11, h12]) (by simp (maxDischargeDepth := 20)) (by simp) (by simp)
 exact owes_one (.inr rfl) hwf rfl (by rw [show zeroB n o = false from by simp only [zeroB, if_pos h0, if_pos h1, if_pos h2, if_pos h3, if_pos h4, if_pos h5, if_pos h6, if_pos h7, if_pos h8, if_pos h9, if_pos h10, if_pos h11, if_neg h12]] <;> simp [h0, h1, h2, h3, h4, h5, h6, h7, h8, h9, h10, h11, h12]) (by simp (maxDischargeDepth := 20)) (by simp) (by simp)
 refine T_rg ?_
 simp [h0, h1, h2, h3, h4, h5, h6, h7, h8, h9, h10, h11]
 refine hK3 _ _ ?_
 try clear hK3 K3
 refine T_ret ?_
 try simp only [tR, bR, lR]
 exact owes_one (.inr rfl) hwf rfl (by rw [show zeroB n o = true from by simp only [zeroB, if_pos h0, if_pos h1, if_pos h2, if_pos h3, if_pos h4, if_pos h5, if_pos h6, if_pos h7, if_pos h8, if_pos h9, if_pos h10, if_neg h11]] <;> simp [h0, h1, h2, h3, h4, h5, h6, h7, h8, h9, h10, h11]) (by simp (maxDischargeDepth := 20)) (by simp) (by simp)
 refine T_rg ?_
 simp [h0, h1, h2, h3, h4, h5, h6, h7, h8, h9, h10]
 refine hK3 _ _ ?_
 try clear hK3 K3
 refine T_ret ?_
 try simp only [tR, bR, lR]
 exact owes_one (.inr rfl) hwf rfl (by rw [show zeroB n o = false from by simp only [zeroB, if_pos h0, if_pos h1, if_pos h2, if_pos h3, if_pos h4, if_pos h5, if_pos h6, if_pos h7, if_pos h8, if_pos h9, if_neg h10]] <;> simp [h0, h1, h2, h3, h4, h5, h6, h7, h8, h9, h10]) (by simp (maxDischargeDepth := 20)) (by simp) (by simp)
 refine T_rg ?_
 simp [h0, h1, h2, h3, h4, h5, h6, h7, h8, h9]
 refine hK3 _ _ ?_
 try clear hK3 K3
 refine T_ret ?_
 try simp only [tR, bR, lR]
 exact owes_one (.inr rfl) hwf rfl (by rw [show zeroB n o = false from by simp only [zeroB, if_pos h0, if_pos h1, if_pos h2, if_pos h3, if_pos h4, if_pos h5, if_pos h6, if_pos h7, if_pos h8, if_neg h9]] <;> simp [h0, h1, h2, h3, h4, h5, h6, h7, h8, h9]) (by simp (maxDischargeDepth := 20)) (by simp) (by simp)
 by_cases h13 : n.value = true
 refine T_rg ?_
 simp [h0, h1, h2, h3, h4, h5, h6, h7, h8, h13]
 refine hK3 _ _ ?_
 try clear hK3 K3
 refine T_ret ?_
 try simp only [tR, bR, lR]
 by_cases h14 : eqv o.value.kind o.value.bits o.value.text 0 0 ⟨#[]⟩ = true
 exact owes_one (.inr rfl) hwf rfl (by rw [show zeroB n o = true from by simp only [zeroB, if_pos h0, if_pos h1, if_pos h2, if_pos h3, if_pos h4, if_pos h5, if_pos h6, if_pos h7, if_neg h8, if_pos h13, if_pos h14]] <;> simp [h0, h1, h2, h3, h4, h5, h6, h7, h8, h13, h14]) (by simp (maxDischargeDepth := 20)) (by simp) (by simp)
 exact owes_one (.inr rfl) hwf rfl (by rw [show zeroB n o = false from by simp only [zeroB, if_pos h0, if_pos h1, if_pos h2, if_pos h3, if_pos h4, if_pos h5, if_pos h6, if_pos h7, if_neg h8, if_pos h13, if_neg h14]] <;> simp [h0, h1, h2, h3, h4, h5, h6, h7, h8, h13, h14]) (by simp (maxDischargeDepth := 20)) (by simp) (by simp)
 refine T_rg ?_
 simp [h0, h1, h2, h3, h4, h5, h6, h7, h8, h13]
 refine hK3 _ _ ?_
 try clear hK3 K3
 refine T_ret ?_
 try simp only [tR, bR, lR]
 exact owes_one (.inr rfl) hwf rfl (by rw [show zeroB n o = true from by simp only [zeroB, if_pos h0, if_pos h1, if_pos h2, if_pos h3, if_pos h4, if_pos h5, if_pos h6, if_pos h7, if_neg h8, if_neg h13]] <;> simp [h0, h1, h2, h3, h4, h5, h6, h7, h8, h13]) (by simp (maxDischargeDepth := 20)) (by simp) (by simp)
 refine T_condT (by first | rfl | simp [h0, h1, h2, h3, h4, h5, h6, h7]) ?_
 refine T_sr fun K4 hK4 => ?_
 simp [h0, h1, h2, h3, h4, h5, h6, h7]
 refine hK4 _ _ ?_
 try clear hK4 K4
 refine T_ret ?_
 try simp only [tR, bR, lR]
 exact owes_one (.inr rfl) hwf rfl (by rw [show zeroB n o = false from by simp only [zeroB, if_pos h0, if_pos h1, if_pos h2, if_pos h3, if_pos h4, if_pos h5, if_pos h6, if_neg h7]] <;> simp [h0, h1, h2, h3, h4, h5, h6, h7]) (by simp (maxDischargeDepth := 20)) (by simp) (by simp)
 refine T_rg ?_
 simp [h0, h1, h2, h3, h4, h5, h6]
 refine hK2 _ _ ?_
 try clear hK2 K2
 refine T_condF (by first | rfl | simp [h0, h1, h2, h3, h4, h5, h6]) ?_
 refine T_skip ?_
 try simp only [tN, bN, lN]
 refine hK1 _ _ ?_
 try clear hK1 K1
 refine T_seqk fun K5 hK5 => ?_
 by_cases h15 : n.bounds = true
 by_cases h16 : o.lo = 0
 by_cases h17 : o.hi = 0
 by_cases h18 : n.value = true
 refine T_rg ?_
 simp [h0, h1, h2, h3, h4, h5, h6, h15, h16, h17, h18]
 refine hK5 _ _ ?_
 try clear hK5 K5
 refine T_ret ?_
 try simp only [tR, bR, lR]
 by_cases h19 : eqv o.value.kind o.value.bits o.value.text 0 0 ⟨#[]⟩ = true
 exact owes_one (.inr rfl) hwf rfl (by rw [show zeroB n o = true from by simp only [zeroB, if_pos h0, if_pos h1, if_pos h2, if_pos h3, if_pos h4, if_pos h5, if_neg h6, if_pos h15, if_pos h16, if_pos h17, if_pos h18, if_pos h19]] <;> simp [h0, h1, h2, h3, h4, h5, h6, h15, h16, h17, h18, h19]) (by simp (maxDischargeDepth := 20)) (by simp) (by simp)
 exact owes_one (.inr rfl) hwf rfl (by rw [show zeroB n o = false from by simp only [zeroB, if_pos h0, if_pos h1, if_pos h2, if_pos h3, if_pos h4, if_pos h5, if_neg h6, if_pos h15, if_pos h16, if_pos h17, if_pos h18, if_neg h19]] <;> simp [h0, h1, h2, h3, h4, h5, h6, h15, h16, h17, h18, h19]) (by simp (maxDischargeDepth := 20)) (by simp) (by simp)
 refine T_rg ?_
 simp [h0, h1, h2, h3, h4, h5, h6, h15, h16, h17, h18]
 refine hK5 _ _ ?_
 try clear hK5 K5
 refine T_ret ?_
 try simp only [tR, bR, lR]
 exact owes_one (.inr rfl) hwf rfl (by rw [show zeroB n o = true from by simp only [zeroB, if_pos h0, if_pos h1, if_pos h2, if_pos h3, if_pos h4, if_pos h5, if_neg h6, if_pos h15, if_pos h16, if_pos h17, if_neg h18]] <;> simp [h0, h1, h2, h3, h4, h5, h6, h15, h16, h17, h18]) (by simp (maxDischargeDepth := 20)) (by simp) (by simp)
 refine T_rg ?_
 simp [h0, h1, h2, h3, h4, h5, h6, h15, h16, h17]
 refine hK5 _ _ ?_
 try clear hK5 K5
 refine T_ret ?_
 try simp only [tR, bR, lR]
 exact owes_one (.inr rfl) hwf rfl (by rw [show zeroB n o = false from by simp only [zeroB, if_pos h0, if_pos h1, if_pos h2, if_pos h3, if_pos h4, if_pos h5, if_neg h6, if_pos h15, if_pos h16, if_neg h17]] <;> simp [h0, h1, h2, h3, h4, h5, h6, h15, h16, h17]) (by simp (maxDischargeDepth := 20)) (by simp) (by simp)
 refine T_rg ?_
 simp [h0, h1, h2, h3, h4, h5, h6, h15, h16]
 refine hK5 _ _ ?_
 try clear hK5 K5
 refine T_ret ?_
 try simp only [tR, bR, lR]
 exact owes_one (.inr rfl) hwf rfl (by rw [show zeroB n o = false from by simp only [zeroB, if_pos h0, if_pos h1, if_pos h2, if_pos h3, if_pos h4, if_pos h5, if_neg h6, if_pos h15, if_neg h16]] <;> simp [h0, h1, h2, h3, h4, h5, h6, h15, h16]) (by simp (maxDischargeDepth := 20)) (by simp) (by simp)
 by_cases h20 : n.value = true
 refine T_rg ?_
 simp [h0, h1, h2, h3, h4, h5, h6, h15, h20]
 refine hK5 _ _ ?_
 try clear hK5 K5
 refine T_ret ?_
 try simp only [tR, bR, lR]
 by_cases h21 : eqv o.value.kind o.value.bits o.value.text 0 0 ⟨#[]⟩ = true
 exact owes_one (.inr rfl) hwf rfl (by rw [show zeroB n o = true from by simp only [zeroB, if_pos h0, if_pos h1, if_pos h2, if_pos h3, if_pos h4, if_pos h5, if_neg h6, if_neg h15, if_pos h20, if_pos h21]] <;> simp [h0, h1, h2, h3, h4, h5, h6, h15, h20, h21]) (by simp (maxDischargeDepth := 20)) (by simp) (by simp)
 exact owes_one (.inr rfl) hwf rfl (by rw [show zeroB n o = false from by simp only [zeroB, if_pos h0, if_pos h1, if_pos h2, if_pos h3, if_pos h4, if_pos h5, if_neg h6, if_neg h15, if_pos h20, if_neg h21]] <;> simp [h0, h1, h2, h3, h4, h5, h6, h15, h20, h21]) (by simp (maxDischargeDepth := 20)) (by simp) (by simp)
 refine T_rg ?_
 simp [h0, h1, h2, h3, h4, h5, h6, h15, h20]
 refine hK5 _ _ ?_
 try clear hK5 K5
 refine T_ret ?_
 try simp only [tR, bR, lR]
 exact owes_one (.inr rfl) hwf rfl (by rw [show zeroB n o = true from by simp only [zeroB, if_pos h0, if_pos h1, if_pos h2, if_pos h3, if_pos h4, if_pos h5, if_neg h6, if_neg h15, if_neg h20]] <;> simp [h0, h1, h2, h3, h4, h5, h6, h15, h20]) (by simp (maxDischargeDepth := 20)) (by simp) (by simp)
 refine T_rg ?_
 simp [h0, h1, h2, h3, h4, h5]
 refine hK2 _ _ ?_
 try clear hK2 K2
 refine T_condT (by first | rfl | simp [h0, h1, h2, h3, h4, h5]) ?_
 refine T_sr fun K6 hK6 => ?_
 simp [h0, h1, h2, h3, h4, h5]
 refine hK6 _ _ ?_
 try clear hK6 K6
 refine T_ret ?_
 try simp only [tR, bR, lR]
 exact owes_one (.inr rfl) hwf rfl (by rw [show zeroB n o = false from by simp only [zeroB, if_pos h0, if_pos h1, if_pos h2, if_pos h3, if_pos h4, if_neg h5]] <;> simp [h0, h1, h2, h3, h4, h5]) (by simp (maxDischargeDepth := 20)) (by simp) (by simp)
 by_cases h22 : n.d = true
 refine T_rg ?_
 simp [h0, h1, h2, h3, h4, h22]
 refine hK2 _ _ ?_
 try clear hK2 K2
 by_cases h23 : o.d = 0
 refine T_condF (by first | rfl | simp [h0, h1, h2, h3, h4, h22, h23]) ?_
 refine T_skip ?_
 try simp only [tN, bN, lN]
 refine hK1 _ _ ?_
 try clear hK1 K1
 refine T_seqk fun K7 hK7 => ?_
 by_cases h24 : n.bounds = true
 by_cases h25 : o.lo = 0
 by_cases h26 : o.hi = 0
 by_cases h27 : n.value = true
 refine T_rg ?_
 simp [h0, h1, h2, h3, h4, h22, h23, h24, h25, h26, h27]
 refine hK7 _ _ ?_
 try clear hK7 K7
 refine T_ret ?_
 try simp only [tR, bR, lR]
 by_cases h28 : eqv o.value.kind o.value.bits o.value.text 0 0 ⟨#[]⟩ = true
 exact owes_one (.inr rfl) hwf rfl (by rw [show zeroB n o = true from by simp only [zeroB, if_pos h0, if_pos h1, if_pos h2, if_pos h3, if_neg h4, if_pos h22, if_pos h23, if_pos h24, if_pos h25, if_pos h26, if_pos h27, if_pos h28]] <;> simp [h0, h1, h2, h3, h4, h22, h23, h24, h25, h26, h27, h28]) (by simp (maxDischargeDepth := 20)) (by simp) (by simp)
 exact owes_one (.inr rfl) hwf rfl (by rw [show zeroB n o = false from by simp only [zeroB, if_pos h0, if_pos h1, if_pos h2, if_pos h3, if_neg h4, if_pos h22, if_pos h23, if_pos h24, if_pos h25, if_pos h26, if_pos h27, if_neg h28]] <;> simp [h0, h1, h2, h3, h4, h22, h23, h24, h25, h26, h27, h28]) (by simp (maxDischargeDepth := 20)) (by simp) (by simp)
 refine T_rg ?_
 simp [h0, h1, h2, h3, h4, h22, h23, h24, h25, h26, h27]
 refine hK7 _ _ ?_
 try clear hK7 K7
 refine T_ret ?_
 try simp only [tR, bR, lR]
 exact owes_one (.inr rfl) hwf rfl (by rw [show zeroB n o = true from by simp only [zeroB, if_pos h0, if_pos h1, if_pos h2, if_pos h3, if_neg h4, if_pos h22, if_pos h23, if_pos h24, if_pos h25, if_pos h26, if_neg h27]] <;> simp [h0, h1, h2, h3, h4, h22, h23, h24, h25, h26, h27]) (by simp (maxDischargeDepth := 20)) (by simp) (by simp)
 refine T_rg ?_
 simp [h0, h1, h2, h3, h4, h22, h23, h24, h25, h26]
 refine hK7 _ _ ?_
 try clear hK7 K7
 refine T_ret ?_
 try simp only [tR, bR, lR]
 exact owes_one (.inr rfl) hwf rfl (by rw [show zeroB n o = false from by simp only [zeroB, if_pos h0, if_pos h1, if_pos h2, if_pos h3, if_neg h4, if_pos h22, if_pos h23, if_pos h24, if_pos h25, if_neg h26]] <;> simp [h0, h1, h2, h3, h4, h22, h23, h24, h25, h26]) (by simp (maxDischargeDepth := 20)) (by simp) (by simp)
 refine T_rg ?_
 simp [h0, h1, h2, h3, h4, h22, h23, h24, h25]
 refine hK7 _ _ ?_
 try clear hK7 K7
 refine T_ret ?_
 try simp only [tR, bR, lR]
 exact owes_one (.inr rfl) hwf rfl (by rw [show zeroB n o = false from by simp only [zeroB, if_pos h0, if_pos h1, if_pos h2, if_pos h3, if_neg h4, if_pos h22, if_pos h23, if_pos h24, if_neg h25]] <;> simp [h0, h1, h2, h3, h4, h22, h23, h24, h25]) (by simp (maxDischargeDepth := 20)) (by simp) (by simp)
 by_cases h29 : n.value = true
 refine T_rg ?_
 simp [h0, h1, h2, h3, h4, h22, h23, h24, h29]
 refine hK7 _ _ ?_
 try clear hK7 K7
 refine T_ret ?_
 try simp only [tR, bR, lR]
 by_cases h30 : eqv o.value.kind o.value.bits o.value.text 0 0 ⟨#[]⟩ = true
 exact owes_one (.inr rfl) hwf rfl (by rw [show zeroB n o = true from by simp only [zeroB, if_pos h0, if_pos h1, if_pos h2, if_pos h3, if_neg h4, if_pos h22, if_pos h23, if_neg h24, if_pos h29, if_pos h30]] <;> simp [h0, h1, h2, h3, h4, h22, h23, h24, h29, h30]) (by simp (maxDischargeDepth := 20)) (by simp) (by simp)
 exact owes_one (.inr rfl) hwf rfl (by rw [show zeroB n o = false from by simp only [zeroB, if_pos h0, if_pos h1, if_pos h2, if_pos h3, if_neg h4, if_pos h22, if_pos h23, if_neg h24, if_pos h29, if_neg h30]] <;> simp [h0, h1, h2, h3, h4, h22, h23, h24, h29, h30]) (by simp (maxDischargeDepth := 20)) (by simp) (by simp)
 refine T_rg ?_
 simp [h0, h1, h2, h3, h4, h22, h23, h24, h29]
 refine hK7 _ _ ?_
 try clear hK7 K7
 refine T_ret ?_
 try simp only [tR, bR, lR]
 exact owes_one (.inr rfl) hwf rfl (by rw [show zeroB n o = true from by simp only [zeroB, if_pos h0, if_pos h1, if_pos h2, if_pos h3, if_neg h4, if_pos h22, if_pos h23, if_neg h24, if_neg h29]] <;> simp [h0, h1, h2, h3, h4, h22, h23, h24, h29]) (by simp (maxDischargeDepth := 20)) (by simp) (by simp)
 refine T_condT (by first | rfl | simp [h0, h1, h2, h3, h4, h22, h23]) ?_
 refine T_sr fun K8 hK8 => ?_
 simp [h0, h1, h2, h3, h4, h22, h23]
 refine hK8 _ _ ?_
 try clear hK8 K8
 refine T_ret ?_
 try simp only [tR, bR, lR]
 exact owes_one (.inr rfl) hwf rfl (by rw [show zeroB n o = false from by simp only [zeroB, if_pos h0, if_pos h1, if_pos h2, if_pos h3, if_neg h4, if_pos h22, if_neg h23]] <;> simp [h0, h1, h2, h3, h4, h22, h23]) (by simp (maxDischargeDepth := 20)) (by simp) (by simp)
 refine T_rg ?_
 simp [h0, h1, h2, h3, h4, h22]
 refine hK2 _ _ ?_
 try clear hK2 K2
 refine T_condF (by first | rfl | simp [h0, h1, h2, h3, h4, h22]) ?_
 refine T_skip ?_
 try simp only [tN, bN, lN]
 refine hK1 _ _ ?_
 try clear hK1 K1
 refine T_seqk fun K9 hK9 => ?_
 by_cases h31 : n.bounds = true
 by_cases h32 : o.lo = 0
 by_cases h33 : o.hi = 0
 by_cases h34 : n.value = true
 refine T_rg ?_
 simp [h0, h1, h2, h3, h4, h22, h31, h32, h33, h34]
 refine hK9 _ _ ?_
 try clear hK9 K9
 refine T_ret ?_
 try simp only [tR, bR, lR]
 by_cases h35 : eqv o.value.kind o.value.bits o.value.text 0 0 ⟨#[]⟩ = true
 exact owes_one (.inr rfl) hwf rfl (by rw [show zeroB n o = true from by simp only [zeroB, if_pos h0, if_pos h1, if_pos h2, if_pos h3, if_neg h4, if_neg h22, if_pos h31, if_pos h32, if_pos h33, if_pos h34, if_pos h35]] <;> simp [h0, h1, h2, h3, h4, h22, h31, h32, h33, h34, h35]) (by simp (maxDischargeDepth := 20)) (by simp) (by simp)
 exact owes_one (.inr rfl) hwf rfl (by rw [show zeroB n o = false from by simp only [zeroB, if_pos h0, if_pos h1, if_pos h2, if_pos h3, if_neg h4, if_neg h22, if_pos h31, if_pos h32, if_pos h33, if_pos h34, if_neg h35]] <;> simp [h0, h1, h2, h3, h4, h22, h31, h32, h33, h34, h35]) (by simp (maxDischargeDepth := 20)) (by simp) (by simp)
 refine T_rg ?_
 simp [h0, h1, h2, h3, h4, h22, h31, h32, h33, h34]
 refine hK9 _ _ ?_
 try clear hK9 K9
 refine T_ret ?_
 try simp only [tR, bR, lR]
 exact owes_one (.inr rfl) hwf rfl (by rw [show zeroB n o = true from by simp only [zeroB, if_pos h0, if_pos h1, if_pos h2, if_pos h3, if_neg h4, if_neg h22, if_pos h31, if_pos h32, if_pos h33, if_neg h34]] <;> simp [h0, h1, h2, h3, h4, h22, h31, h32, h33, h34]) (by simp (maxDischargeDepth := 20)) (by simp) (by simp)
 refine T_rg ?_
 simp [h0, h1, h2, h3, h4, h22, h31, h32, h33]
 refine hK9 _ _ ?_
 try clear hK9 K9
 refine T_ret ?_
 try simp only [tR, bR, lR]
 exact owes_one (.inr rfl) hwf rfl (by rw [show zeroB n o = false from by simp only [zeroB, if_pos h0, if_pos h1, if_pos h2, if_pos h3, if_neg h4, if_neg h22, if_pos h31, if_pos h32, if_neg h33]] <;> simp [h0, h1, h2, h3, h4, h22, h31, h32, h33]) (by simp (maxDischargeDepth := 20)) (by simp) (by simp)
 refine T_rg ?_
 simp [h0, h1, h2, h3, h4, h22, h31, h32]
 refine hK9 _ _ ?_
 try clear hK9 K9
 refine T_ret ?_
 try simp only [tR, bR, lR]
 exact owes_one (.inr rfl) hwf rfl (by rw [show zeroB n o = false from by simp only [zeroB, if_pos h0, if_pos h1, if_pos h2, if_pos h3, if_neg h4, if_neg h22, if_pos h31, if_neg h32]] <;> simp [h0, h1, h2, h3, h4, h22, h31, h32]) (by simp (maxDischargeDepth := 20)) (by simp) (by simp)
 by_cases h36 : n.value = true
 refine T_rg ?_
 simp [h0, h1, h2, h3, h4, h22, h31, h36]
 refine hK9 _ _ ?_
 try clear hK9 K9
 refine T_ret ?_
 try simp only [tR, bR, lR]
 by_cases h37 : eqv o.value.kind o.value.bits o.value.text 0 0 ⟨#[]⟩ = true
 exact owes_one (.inr rfl) hwf rfl (by rw [show zeroB n o = true from by simp only [zeroB, if_pos h0, if_pos h1, if_pos h2, if_pos h3, if_neg h4, if_neg h22, if_neg h31, if_pos h36, if_pos h37]] <;> simp [h0, h1, h2, h3, h4, h22, h31, h36, h37]) (by simp (maxDischargeDepth := 20)) (by simp) (by simp)
 exact owes_one (.inr rfl) hwf rfl (by rw [show zeroB n o = false from by simp only [zeroB, if_pos h0, if_pos h1, if_pos h2, if_pos h3, if_neg h4, if_neg h22, if_neg h31, if_pos h36, if_neg h37]] <;> simp [h0, h1, h2, h3, h4, h22, h31, h36, h37]) (by simp (maxDischargeDepth := 20)) (by simp) (by simp)
 refine T_rg ?_
 simp [h0, h1, h2, h3, h4, h22, h31, h36]
 refine hK9 _ _ ?_
 try clear hK9 K9
 refine T_ret ?_
 try simp only [tR, bR, lR]
 exact owes_one (.inr rfl) hwf rfl (by rw [show zeroB n o = true from by simp only [zeroB, if_pos h0, if_pos h1, if_pos h2, if_pos h3, if_neg h4, if_neg h22, if_neg h31, if_neg h36]] <;> simp [h0, h1, h2, h3, h4, h22, h31, h36]) (by simp (maxDischargeDepth := 20)) (by simp) (by simp)
 refine T_rg ?_
 simp [h0, h1, h2, h3]
 refine hK2 _ _ ?_
 try clear hK2 K2
 refine T_condT (by first | rfl | simp [h0, h1, h2, h3]) ?_
 refine T_sr fun K10 hK10 => ?_
 simp [h0, h1, h2, h3]
 refine hK10 _ _ ?_
 try clear hK10 K10
 refine T_ret ?_
 try simp only [tR, bR, lR]
 exact owes_one (.inr rfl) hwf rfl (by rw [show zeroB n o = false from by simp only [zeroB, if_pos h0, if_pos h1, if_pos h2, if_neg h3]] <;> simp [h0, h1, h2, h3]) (by simp (maxDischargeDepth := 20)) (by simp) (by simp)
 by_cases h38 : n.c = true
 by_cases h39 : o.c = 0
 by_cases h40 : n.d = true
 refine T_rg ?_
 simp [h0, h1, h2, h38, h39, h40]
 refine hK2 _ _ ?_
 try clear hK2 K2
 by_cases h41 : o.d = 0
 refine T_condF (by first | rfl | simp [h0, h1, h2, h38, h39, h40, h41]) ?_
 refine T_skip ?_
 try simp only [tN, bN, lN]
 refine hK1 _ _ ?_
 try clear hK1 K1
 refine T_seqk fun K11 hK11 => ?_
 by_cases h42 : n.bounds = true
 by_cases h43 : o.lo = 0
 by_cases h44 : o.hi = 0
 by_cases h45 : n.value = true
 refine T_rg ?_
 simp [h0, h1, h2, h38, h39, h40, h41, h42, h43, h44, h45]
 refine hK11 _ _ ?_
 try clear hK11 K11
 refine T_ret ?_
 try simp only [tR, bR, lR]
 by_cases h46 : eqv o.value.kind o.value.bits o.value.text 0 0 ⟨#[]⟩ = true
 exact owes_one (.inr rfl) hwf rfl (by rw [show zeroB n o = true from by simp only [zeroB, if_pos h0, if_pos h1, if_neg h2, if_pos h38, if_pos h39, if_pos h40, if_pos h41, if_pos h42, if_pos h43, if_pos h44, if_pos h45, if_pos h46]] <;> simp [h0, h1, h2, h38, h39, h40, h41, h42, h43, h44, h45, h46]) (by simp (maxDischargeDepth := 20)) (by simp) (by simp)
 exact owes_one (.inr rfl) hwf rfl (by rw [show zeroB n o = false from by simp only [zeroB, if_pos h0, if_pos h1, if_neg h2, if_pos h38, if_pos h39, if_pos h40, if_pos h41, if_pos h42, if_pos h43, if_pos h44, if_pos h45, if_neg h46]] <;> simp [h0, h1, h2, h38, h39, h40, h41, h42, h43, h44, h45, h46]) (by simp (maxDischargeDepth := 20)) (by simp) (by simp)
 refine T_rg ?_
 simp [h0, h1, h2, h38, h39, h40, h41, h42, h43, h44, h45]
 refine hK11 _ _ ?_
 try clear hK11 K11
 refine T_ret ?_
 try simp only [tR, bR, lR]
 exact owes_one (.inr rfl) hwf rfl (by rw [show zeroB n o = true from by simp only [zeroB, if_pos h0, if_pos h1, if_neg h2, if_pos h38, if_pos h39, if_pos h40, if_pos h41, if_pos h42, if_pos h43, if_pos h44, if_neg h45]] <;> simp [h0, h1, h2, h38, h39, h40, h41, h42, h43, h44, h45]) (by simp (maxDischargeDepth := 20)) (by simp) (by simp)
 refine T_rg ?_
 simp [h0, h1, h2, h38, h39, h40, h41, h42, h43, h44]
 refine hK11 _ _ ?_
 try clear hK11 K11
 refine T_ret ?_
 try simp only [tR, bR, lR]
 exact owes_one (.inr rfl) hwf rfl (by rw [show zeroB n o = false from by simp only [zeroB, if_pos h0, if_pos h1, if_neg h2, if_pos h38, if_pos h39, if_pos h40, if_pos h41, if_pos h42, if_pos h43, if_neg h44]] <;> simp [h0, h1, h2, h38, h39, h40, h41, h42, h43, h44]) (by simp (maxDischargeDepth := 20)) (by simp) (by simp)
 refine T_rg ?_
 simp [h0, h1, h2, h38, h39, h40, h41, h42, h43]
 refine hK11 _ _ ?_
 try clear hK11 K11
 refine T_ret ?_
 try simp only [tR, bR, lR]
 exact owes_one (.inr rfl) hwf rfl (by rw [show zeroB n o = false from by simp only [zeroB, if_pos h0, if_pos h1, if_neg h2, if_pos h38, if_pos h39, if_pos h40, if_pos h41, if_pos h42, if_neg h43]] <;> simp [h0, h1, h2, h38, h39, h40, h41, h42, h43]) (by simp (maxDischargeDepth := 20)) (by simp) (by simp)
 by_cases h47 : n.value = true
 refine T_rg ?_
 simp [h0, h1, h2, h38, h39, h40, h41, h42, h47]
 refine hK11 _ _ ?_
 try clear hK11 K11
 refine T_ret ?_
 try simp only [tR, bR, lR]
 by_cases h48 : eqv o.value.kind o.value.bits o.value.text 0 0 ⟨#[]⟩ = true
 exact owes_one (.inr rfl) hwf rfl (by rw [show zeroB n o = true from by simp only [zeroB, if_pos h0, if_pos h1, if_neg h2, if_pos h38, if_pos h39, if_pos h40, if_pos h41, if_neg h42, if_pos h47, if_pos h48]] <;> simp [h0, h1, h2, h38, h39, h40, h41, h42, h47, h48]) (by simp (maxDischargeDepth := 20)) (by simp) (by simp)
 exact owes_one (.inr rfl) hwf rfl (by rw [show zeroB n o = false from by simp only [zeroB, if_pos h0, if_pos h1, if_neg h2, if_pos h38, if_pos h39, if_pos h40, if_pos h41, if_neg h42, if_pos h47, if_neg h48]] <;> simp [h0, h1, h2, h38, h39, h40, h41, h42, h47, h48]) (by simp (maxDischargeDepth := 20)) (by simp) (by simp)
 refine T_rg ?_
 simp [h0, h1, h2, h38, h39, h40, h41, h42, h47]
 refine hK11 _ _ ?_
 try clear hK11 K11
 refine T_ret ?_
 try simp only [tR, bR, lR]
 exact owes_one (.inr rfl) hwf rfl (by rw [show zeroB n o = true from by simp only [zeroB, if_pos h0, if_pos h1, if_neg h2, if_pos h38, if_pos h39, if_pos h40, if_pos h41, if_neg h42, if_neg h47]] <;> simp [h0, h1, h2, h38, h39, h40, h41, h42, h47]) (by simp (maxDischargeDepth := 20)) (by simp) (by simp)
 refine T_condT (by first | rfl | simp [h0, h1, h2, h38, h39, h40, h41]) ?_
 refine T_sr fun K12 hK12 => ?_
 simp [h0, h1, h2, h38, h39, h40, h41]
 refine hK12 _ _ ?_
 try clear hK12 K12
 refine T_ret ?_
 try simp only [tR, bR, lR]
 exact owes_one (.inr rfl) hwf rfl (by rw [show zeroB n o = false from by simp only [zeroB, if_pos h0, if_pos h1, if_neg h2, if_pos h38, if_pos h39, if_pos h40, if_neg h41]] <;> simp [h0, h1, h2, h38, h39, h40, h41]) (by simp (maxDischargeDepth := 20)) (by simp) (by simp)
 refine T_rg ?_
 simp [h0, h1, h2, h38, h39, h40]
 refine hK2 _ _ ?_
 try clear hK2 K2
 refine T_condF (by first | rfl | simp [h0, h1, h2, h38, h39, h40]) ?_
 refine T_skip ?_
 try simp only [tN, bN, lN]
 refine hK1 _ _ ?_
 try clear hK1 K1
 refine T_seqk fun K13 hK13 => ?_
 by_cases h49 : n.bounds = true
 by_cases h50 : o.lo = 0
 by_cases h51 : o.hi = 0
 by_cases h52 : n.value = true
 refine T_rg ?_
 simp [h0, h1, h2, h38, h39, h40, h49, h50, h51, h52]
 refine hK13 _ _ ?_
 try clear hK13 K13
 refine T_ret ?_
 try simp only [tR, bR, lR]
 by_cases h53 : eqv o.value.kind o.value.bits o.value.text 0 0 ⟨#[]⟩ = true
 exact owes_one (.inr rfl) hwf rfl (by rw [show zeroB n o = true from by simp only [zeroB, if_pos h0, if_pos h1, if_neg h2, if_pos h38, if_pos h39, if_neg h40, if_pos h49, if_pos h50, if_pos h51, if_pos h52, if_pos h53]] <;> simp [h0, h1, h2, h38, h39, h40, h49, h50, h51, h52, h53]) (by simp (maxDischargeDepth := 20)) (by simp) (by simp)
 exact owes_one (.inr rfl) hwf rfl (by rw [show zeroB n o = false from by simp only [zeroB, if_pos h0, if_pos h1, if_neg h2, if_pos h38, if_pos h39, if_neg h40, if_pos h49, if_pos h50, if_pos h51, if_pos h52, if_neg h53]] <;> simp [h0, h1, h2, h38, h39, h40, h49, h50, h51, h52, h53]) (by simp (maxDischargeDepth := 20)) (by simp) (by simp)
 refine T_rg ?_
 simp [h0, h1, h2, h38, h39, h40, h49, h50, h51, h52]
 refine hK13 _ _ ?_
 try clear hK13 K13
 refine T_ret ?_
 try simp only [tR, bR, lR]
 exact owes_one (.inr rfl) hwf rfl (by rw [show zeroB n o = true from by simp only [zeroB, if_pos h0, if_pos h1, if_neg h2, if_pos h38, if_pos h39, if_neg h40, if_pos h49, if_pos h50, if_pos h51, if_neg h52]] <;> simp [h0, h1, h2, h38, h39, h40, h49, h50, h51, h52]) (by simp (maxDischargeDepth := 20)) (by simp) (by simp)
 refine T_rg ?_
 simp [h0, h1, h2, h38, h39, h40, h49, h50, h51]
 refine hK13 _ _ ?_
 try clear hK13 K13
 refine T_ret ?_
 try simp only [tR, bR, lR]
 exact owes_one (.inr rfl) hwf rfl (by rw [show zeroB n o = false from by simp only [zeroB, if_pos h0, if_pos h1, if_neg h2, if_pos h38, if_pos h39, if_neg h40, if_pos h49, if_pos h50, if_neg h51]] <;> simp [h0, h1, h2, h38, h39, h40, h49, h50, h51]) (by simp (maxDischargeDepth := 20)) (by simp) (by simp)
 refine T_rg ?_
 simp [h0, h1, h2, h38, h39, h40, h49, h50]
 refine hK13 _ _ ?_
 try clear hK13 K13
 refine T_ret ?_
 try simp only [tR, bR, lR]
 exact owes_one (.inr rfl) hwf rfl (by rw [show zeroB n o = false from by simp only [zeroB, if_pos h0, if_pos h1, if_neg h2, if_pos h38, if_pos h39, if_neg h40, if_pos h49, if_neg h50]] <;> simp [h0, h1, h2, h38, h39, h40, h49, h50]) (by simp (maxDischargeDepth := 20)) (by simp) (by simp)
 by_cases h54 : n.value = true
 refine T_rg ?_
 simp [h0, h1, h2, h38, h39, h40, h49, h54]
 refine hK13 _ _ ?_
 try clear hK13 K13
 refine T_ret ?_
 try simp only [tR, bR, lR]
 by_cases h55 : eqv o.value.kind o.value.bits o.value.text 0 0 ⟨#[]⟩ = true
 exact owes_one (.inr rfl) hwf rfl (by rw [show zeroB n o = true from by simp only [zeroB, if_pos h0, if_pos h1, if_neg h2, if_pos h38, if_pos h39, if_neg h40, if_neg h49, if_pos h54, if_pos h55]] <;> simp [h0, h1, h2, h38, h39, h40, h49, h54, h55]) (by simp (maxDischargeDepth := 20)) (by simp) (by simp)
 exact owes_one (.inr rfl) hwf rfl (by rw [show zeroB n o = false from by simp only [zeroB, if_pos h0, if_pos h1, if_neg h2, if_pos h38, if_pos h39, if_neg h40, if_neg h49, if_pos h54, if_neg h55]] <;> simp [h0, h1, h2, h38, h39, h40, h49, h54, h55]) (by simp (maxDischargeDepth := 20)) (by simp) (by simp)
 refine T_rg ?_
 simp [h0, h1, h2, h38, h39, h40, h49, h54]
 refine hK13 _ _ ?_
 try clear hK13 K13
 refine T_ret ?_
 try simp only [tR, bR, lR]
 exact owes_one (.inr rfl) hwf rfl (by rw [show zeroB n o = true from by simp only [zeroB, if_pos h0, if_pos h1, if_neg h2, if_pos h38, if_pos h39, if_neg h40, if_neg h49, if_neg h54]] <;> simp [h0, h1, h2, h38, h39, h40, h49, h54]) (by simp (maxDischargeDepth := 20)) (by simp) (by simp)
 refine T_rg ?_
 simp [h0, h1, h2, h38, h39]
 refine hK2 _ _ ?_
 try clear hK2 K2
 refine T_condT (by first | rfl | simp [h0, h1, h2, h38, h39]) ?_
 refine T_sr fun K14 hK14 => ?_
 simp [h0, h1, h2, h38, h39]
 refine hK14 _ _ ?_
 try clear hK14 K14
 refine T_ret ?_
 try simp only [tR, bR, lR]
 exact owes_one (.inr rfl) hwf rfl (by rw [show zeroB n o = false from by simp only [zeroB, if_pos h0, if_pos h1, if_neg h2, if_pos h38, if_neg h39]] <;> simp [h0, h1, h2, h38, h39]) (by simp (maxDischargeDepth := 20)) (by simp) (by simp)
 by_cases h56 : n.d = true
 refine T_rg ?_
 simp [h0, h1, h2, h38, h56]
 refine hK2 _ _ ?_
 try clear hK2 K2
 by_cases h57 : o.d = 0
 refine T_condF (by first | rfl | simp [h0, h1, h2, h38, h56, h57]) ?_
 refine T_skip ?_
 try simp only [tN, bN, lN]
 refine hK1 _ _ ?_
 try clear hK1 K1
 refine T_seqk fun K15 hK15 => ?_
 by_cases h58 : n.bounds = true
 by_cases h59 : o.lo = 0
 by_cases h60 : o.hi = 0
 by_cases h61 : n.value = true
 refine T_rg ?_
 simp [h0, h1, h2, h38, h56, h57, h58, h59, h60, h61]
 refine hK15 _ _ ?_
 try clear hK15 K15
 refine T_ret ?_
 try simp only [tR, bR, lR]
 by_cases h62 : eqv o.value.kind o.value.bits o.value.text 0 0 ⟨#[]⟩ = true
 exact owes_one (.inr rfl) hwf rfl (by rw [show zeroB n o = true from by simp only [zeroB, if_pos h0, if_pos h1, if_neg h2, if_neg h38, if_pos h56, if_pos h57, if_pos h58, if_pos h59, if_pos h60, if_pos h61, if_pos h62]] <;> simp [h0, h1, h2, h38, h56, h57, h58, h59, h60, h61, h62]) (by simp (maxDischargeDepth := 20)) (by simp) (by simp)
 exact owes_one (.inr rfl) hwf rfl (by rw [show zeroB n o = false from by simp only [zeroB, if_pos h0, if_pos h1, if_neg h2, if_neg h38, if_pos h56, if_pos h57, if_pos h58, if_pos h59, if_pos h60, if_pos h61, if_neg h62]] <;> simp [h0, h1, h2, h38, h56, h57, h58, h59, h60, h61, h62]) (by simp (maxDischargeDepth := 20)) (by simp) (by simp)
 refine T_rg ?_
 simp [h0, h1, h2, h38, h56, h57, h58, h59, h60, h61]
 refine hK15 _ _ ?_
 try clear hK15 K15
 refine T_ret ?_
 try simp only [tR, bR, lR]
 exact owes_one (.inr rfl) hwf rfl (by rw [show zeroB n o = true from by simp only [zeroB, if_pos h0, if_pos h1, if_neg h2, if_neg h38, if_pos h56, if_pos h57, if_pos h58, if_pos h59, if_pos h60, if_neg h61]] <;> simp [h0, h1, h2, h38, h56, h57, h58, h59, h60, h61]) (by simp (maxDischargeDepth := 20)) (by simp) (by simp)
 refine T_rg ?_
 simp [h0, h1, h2, h38, h56, h57, h58, h59, h60]
 refine hK15 _ _ ?_
 try clear hK15 K15
 refine T_ret ?_
 try simp only [tR, bR, lR]
 exact owes_one (.inr rfl) hwf rfl (by rw [show zeroB n o = false from by simp only [zeroB, if_pos h0, if_pos h1, if_neg h2, if_neg h38, if_pos h56, if_pos h57, if_pos h58, if_pos h59, if_neg h60]] <;> simp [h0, h1, h2, h38, h56, h57, h58, h59, h60]) (by simp (maxDischargeDepth := 20)) (by simp) (by simp)
 refine T_rg ?_
 simp [h0, h1, h2, h38, h56, h57, h58, h59]
 refine hK15 _ _ ?_
 try clear hK15 K15
 refine T_ret ?_
 try simp only [tR, bR, lR]
 exact owes_one (.inr rfl) hwf rfl (by rw [show zeroB n o = false from by simp only [zeroB, if_pos h0, if_pos h1, if_neg h2, if_neg h38, if_pos h56, if_pos h57, if_pos h58, if_neg h59]] <;> simp [h0, h1, h2, h38, h56, h57, h58, h59]) (by simp (maxDischargeDepth := 20)) (by simp) (by simp)
 by_cases h63 : n.value = true
 refine T_rg ?_
 simp [h0, h1, h2, h38, h56, h57, h58, h63]
 refine hK15 _ _ ?_
 try clear hK15 K15
 refine T_ret ?_
 try simp only [tR, bR, lR]
 by_cases h64 : eqv o.value.kind o.value.bits o.value.text 0 0 ⟨#[]⟩ = true
 exact owes_one (.inr rfl) hwf rfl (by rw [show zeroB n o = true from by simp only [zeroB, if_pos h0, if_pos h1, if_neg h2, if_neg h38, if_pos h56, if_pos h57, if_neg h58, if_pos h63, if_pos h64]] <;> simp [h0, h1, h2, h38, h56, h57, h58, h63, h64]) (by simp (maxDischargeDepth := 20)) (by simp) (by simp)
 exact owes_one (.inr rfl) hwf rfl (by rw [show zeroB n o = false from by simp only [zeroB, if_pos h0, if_pos h1, if_neg h2, if_neg h38, if_pos h56, if_pos h57, if_neg h58, if_pos h63, if_neg h64]] <;> simp [h0, h1, h2, h38, h56, h57, h58, h63, h64]) (by simp (maxDischargeDepth := 20)) (by simp) (by simp)
 refine T_rg ?_
 simp [h0, h1, h2, h38, h56, h57, h58, h63]
 refine hK15 _ _ ?_
 try clear hK15 K15
 refine T_ret ?_
 try simp only [tR, bR, lR]
 exact owes_one (.inr rfl) hwf rfl (by rw [show zeroB n o = true from by simp only [zeroB, if_pos h0, if_pos h1, if_neg h2, if_neg h38, if_pos h56, if_pos h57, if_neg h58, if_neg h63]] <;> simp [h0, h1, h2, h38, h56, h57, h58, h63]) (by simp (maxDischargeDepth := 20)) (by simp) (by simp)
 refine T_condT (by first | rfl | simp [h0, h1, h2, h38, h56, h57]) ?_
 refine T_sr fun K16 hK16 => ?_
 simp [h0, h1, h2, h38, h56, h57]
 refine hK16 _ _ ?_
 try clear hK16 K16
 refine T_ret ?_
 try simp only [tR, bR, lR]
 exact owes_one (.inr rfl) hwf rfl (by rw [show zeroB n o = false from by simp only [zeroB, if_pos h0, if_pos h1, if_neg h2, if_neg h38, if_pos h56, if_neg h57]] <;> simp [h0, h1, h2, h38, h56, h57]) (by simp (maxDischargeDepth := 20)) (by simp) (by simp)
 refine T_rg ?_
 simp [h0, h1, h2, h38, h56]
 refine hK2 _ _ ?_
 try clear hK2 K2
 refine T_condF (by first | rfl | simp [h0, h1, h2, h38, h56]) ?_
 refine T_skip ?_
 try simp only [tN, bN, lN]
 refine hK1 _ _ ?_
 try clear hK1 K1
 refine T_seqk fun K17 hK17 => ?_
 by_cases h65 : n.bounds = true
 by_cases h66 : o.lo = 0
 by_cases h67 : o.hi = 0
 by_cases h68 : n.value = true
 refine T_rg ?_
 simp [h0, h1, h2, h38, h56, h65, h66, h67, h68]
 refine hK17 _ _ ?_
 try clear hK17 K17
 refine T_ret ?_
 try simp only [tR, bR, lR]
 by_cases h69 : eqv o.value.kind o.value.bits o.value.text 0 0 ⟨#[]⟩ = true
 exact owes_one (.inr rfl) hwf rfl (by rw [show zeroB n o = true from by simp only [zeroB, if_pos h0, if_pos h1, if_neg h2, if_neg h38, if_neg h56, if_pos h65, if_pos h66, if_pos h67, if_pos h68, if_pos h69]] <;> simp [h0, h1, h2, h38, h56, h65, h66, h67, h68, h69]) (by simp (maxDischargeDepth := 20)) (by simp) (by simp)
 exact owes_one (.inr rfl) hwf rfl (by rw [show zeroB n o = false from by simp only [zeroB, if_pos h0, if_pos h1, if_neg h2, if_neg h38, if_neg h56, if_pos h65, if_pos h66, if_pos h67, if_pos h68, if_neg h69]] <;> simp [h0, h1, h2, h38, h56, h65, h66, h67, h68, h69]) (by simp (maxDischargeDepth := 20)) (by simp) (by simp)
 refine T_rg ?_
 simp [h0, h1, h2, h38, h56, h65, h66, h67, h68]
 refine hK17 _ _ ?_
 try clear hK17 K17
 refine T_ret ?_
 try simp only [tR, bR, lR]
 exact owes_one (.inr rfl) hwf rfl (by rw [show zeroB n o = true from by simp only [zeroB, if_pos h0, if_pos h1, if_neg h2, if_neg h38, if_neg h56, if_pos h65, if_pos h66, if_pos h67, if_neg h68]] <;> simp [h0, h1, h2, h38, h56, h65, h66, h67, h68]) (by simp (maxDischargeDepth := 20)) (by simp) (by simp)
 refine T_rg ?_
 simp [h0, h1, h2, h38, h56, h65, h66, h67]
 refine hK17 _ _ ?_
 try clear hK17 K17
 refine T_ret ?_
 try simp only [tR, bR, lR]
 exact owes_one (.inr rfl) hwf rfl (by rw [show zeroB n o = false from by simp only [zeroB, if_pos h0, if_pos h1, if_neg h2, if_neg h38, if_neg h56, if_pos h65, if_pos h66, if_neg h67]] <;> simp [h0, h1, h2, h38, h56, h65, h66, h67]) (by simp (maxDischargeDepth := 20)) (by simp) (by simp)
 refine T_rg ?_
 simp [h0, h1, h2, h38, h56, h65, h66]
 refine hK17 _ _ ?_
 try clear hK17 K17
 refine T_ret ?_
 try simp only [tR, bR, lR]
 exact owes_one (.inr rfl) hwf rfl (by rw [show zeroB n o = false from by simp only [zeroB, if_pos h0, if_pos h1, if_neg h2, if_neg h38, if_neg h56, if_pos h65, if_neg h66]] <;> simp [h0, h1, h2, h38, h56, h65, h66]) (by simp (maxDischargeDepth := 20)) (by simp) (by simp)
 by_cases h70 : n.value = true
 refine T_rg ?_
 simp [h0, h1, h2, h38, h56, h65, h70]
 refine hK17 _ _ ?_
 try clear hK17 K17
 refine T_ret ?_
 try simp only [tR, bR, lR]
 by_cases h71 : eqv o.value.kind o.value.bits o.value.text 0 0 ⟨#[]⟩ = true
 exact owes_one (.inr rfl) hwf rfl (by rw [show zeroB n o = true from by simp only [zeroB, if_pos h0, if_pos h1, if_neg h2, if_neg h38, if_neg h56, if_neg h65, if_pos h70, if_pos h71]] <;> simp [h0, h1, h2, h38, h56, h65, h70, h71]) (by simp (maxDischargeDepth := 20)) (by simp) (by simp)
 exact owes_one (.inr rfl) hwf rfl (by rw [show zeroB n o = false from by simp only [zeroB, if_pos h0, if_pos h1, if_neg h2, if_neg h38, if_neg h56, if_neg h65, if_pos h70, if_neg h71]] <;> simp [h0, h1, h2, h38, h56, h65, h70, h71]) (by simp (maxDischargeDepth := 20)) (by simp) (by simp)
 refine T_rg ?_
 simp [h0, h1, h2, h38, h56, h65, h70]
 refine hK17 _ _ ?_
 try clear hK17 K17
 refine T_ret ?_
 try simp only [tR, bR, lR]
 exact owes_one (.inr rfl) hwf rfl (by rw [show zeroB n o = true from by simp only [zeroB, if_pos h0, if_pos h1, if_neg h2, if_neg h38, if_neg h56, if_neg h65, if_neg h70]] <;> simp [h0, h1, h2, h38, h56, h65, h70]) (by simp (maxDischargeDepth := 20)) (by simp) (by simp)
 refine T_rg ?_
 simp [h0, h1]
 refine hK2 _ _ ?_
 try clear hK2 K2
 refine T_condT (by first | rfl | simp [h0, h1]) ?_
 refine T_sr fun K18 hK18 => ?_
 simp [h0, h1]
 refine hK18 _ _ ?_
 try clear hK18 K18
 refine T_ret ?_
 try simp only [tR, bR, lR]
 exact owes_one (.inr rfl) hwf rfl (by rw [show zeroB n o = false from by simp only [zeroB, if_pos h0, if_neg h1]] <;> simp [h0, h1]) (by simp (maxDischargeDepth := 20)) (by simp) (by simp)
 by_cases h72 : n.b = true
 by_cases h73 : o.b = 0
 by_cases h74 : n.c = true
 by_cases h75 : o.c = 0
 by_cases h76 : n.d = true
 refine T_rg ?_
 simp [h0, h72, h73, h74, h75, h76]
 refine hK2 _ _ ?_
 try clear hK2 K2
 by_cases h77 : o.d = 0
 refine T_condF (by first | rfl | simp [h0, h72, h73, h74, h75, h76, h77]) ?_
 refine T_skip ?_
 try simp only [tN, bN, lN]
 refine hK1 _ _ ?_
 try clear hK1 K1
 refine T_seqk fun K19 hK19 => ?_
 by_cases h78 : n.bounds = true
 by_cases h79 : o.lo = 0
 by_cases h80 : o.hi = 0
 by_cases h81 : n.value = true
 refine T_rg ?_
 simp [h0, h72, h73, h74, h75, h76, h77, h78, h79, h80, h81]
 refine hK19 _ _ ?_
 try clear hK19 K19
 refine T_ret ?_
 try simp only [tR, bR, lR]
 by_cases h82 : eqv o.value.kind o.value.bits o.value.text 0 0 ⟨#[]⟩ = true
 exact owes_one (.inr rfl) hwf rfl (by rw [show zeroB n o = true from by simp only [zeroB, if_neg h0, if_pos h72, if_pos h73, if_pos h74, if_pos h75, if_pos h76, if_pos h77, if_pos h78, if_pos h79, if_pos h80, if_pos h81, if_pos h82]] <;> simp [h0, h72, h73, h74, h75, h76, h77, h78, h79, h80, h81, h82]) (by simp (maxDischargeDepth := 20)) (by simp) (by simp)
 exact owes_one (.inr rfl) hwf rfl (by rw [show zeroB n o = false from by simp only [zeroB, if_neg h0, if_pos h72, if_pos h73, if_pos h74, if_pos h75, if_pos h76, if_pos h77, if_pos h78, if_pos h79, if_pos h80, if_pos h81, if_neg h82]] <;> simp [h0, h72, h73, h74, h75, h76, h77, h78, h79, h80, h81, h82]) (by simp (maxDischargeDepth := 20)) (by simp) (by simp)
 refine T_rg ?_
 simp [h0, h72, h73, h74, h75, h76, h77, h78, h79, h80, h81]
 refine hK19 _ _ ?_
 try clear hK19 K19
 refine T_ret ?_
 try simp only [tR, bR, lR]
 exact owes_one (.inr rfl) hwf rfl (by rw [show zeroB n o = true from by simp only [zeroB, if_neg h0, if_pos h72, if_pos h73, if_pos h74, if_pos h75, if_pos h76, if_pos h77, if_pos h78, if_pos h79, if_pos h80, if_neg h81]] <;> simp [h0, h72, h73, h74, h75, h76, h77, h78, h79, h80, h81]) (by simp (maxDischargeDepth := 20)) (by simp) (by simp)
 refine T_rg ?_
 simp [h0, h72, h73, h74, h75, h76, h77, h78, h79, h80]
 refine hK19 _ _ ?_
 try clear hK19 K19
 refine T_ret ?_
 try simp only [tR, bR, lR]
 exact owes_one (.inr rfl) hwf rfl (by rw [show zeroB n o = false from by simp only [zeroB, if_neg h0, if_pos h72, if_pos h73, if_pos h74, if_pos h75, if_pos h76, if_pos h77, if_pos h78, if_pos h79, if_neg h80]] <;> simp [h0, h72, h73, h74, h75, h76, h77, h78, h79, h80]) (by simp (maxDischargeDepth := 20)) (by simp) (by simp)
 refine T_rg ?_
 simp [h0, h72, h73, h74, h75, h76, h77, h78, h79]
 refine hK19 _ _ ?_
 try clear hK19 K19
 refine T_ret ?_
 try simp only [tR, bR, lR]
 exact owes_one (.inr rfl) hwf rfl (by rw [show zeroB n o = false from by simp only [zeroB, if_neg h0, if_pos h72, if_pos h73, if_pos h74, if_pos h75, if_pos h76, if_pos h77, if_pos h78, if_neg h79]] <;> simp [h0, h72, h73, h74, h75, h76, h77, h78, h79]) (by simp (maxDischargeDepth := 20)) (by simp) (by simp)
 by_cases h83 : n.value = true
 refine T_rg ?_
 simp [h0, h72, h73, h74, h75, h76, h77, h78, h83]
 refine hK19 _ _ ?_
 try clear hK19 K19
 refine T_ret ?_
 try simp only [tR, bR, lR]
 by_cases h84 : eqv o.value.kind o.value.bits o.value.text 0 0 ⟨#[]⟩ = true
 exact owes_one (.inr rfl) hwf rfl (by rw [show zeroB n o = true from by simp only [zeroB, if_neg h0, if_pos h72, if_pos h73, if_pos h74, if_pos h75, if_pos h76, if_pos h77, if_neg h78, if_pos h83, if_pos h84]] <;> simp [h0, h72, h73, h74, h75, h76, h77, h78, h83, h84]) (by simp (maxDischargeDepth := 20)) (by simp) (by simp)
 exact owes_one (.inr rfl) hwf rfl (by rw [show zeroB n o = false from by simp only [zeroB, if_neg h0, if_pos h72, if_pos h73, if_pos h74, if_pos h75, if_pos h76, if_pos h77, if_neg h78, if_pos h83, if_neg h84]] <;> simp [h0, h72, h73, h74, h75, h76, h77, h78, h83, h84]) (by simp (maxDischargeDepth := 20)) (by simp) (by simp)
 refine T_rg ?_
 simp [h0, h72, h73, h74, h75, h76, h77, h78, h83]
 refine hK19 _ _ ?_
 try clear hK19 K19
 refine T_ret ?_
 try simp only [tR, bR, lR]
 exact owes_one (.inr rfl) hwf rfl (by rw [show zeroB n o = true from by simp only [zeroB, if_neg h0, if_pos h72, if_pos h73, if_pos h74, if_pos h75, if_pos h76, if_pos h77, if_neg h78, if_neg h83]] <;> simp [h0, h72, h73, h74, h75, h76, h77, h78, h83]) (by simp (maxDischargeDepth := 20)) (by simp) (by simp)
 refine T_condT (by first | rfl | simp [h0, h72, h73, h74, h75, h76, h77]) ?_
 refine T_sr fun K20 hK20 => ?_
 simp [h0, h72, h73, h74, h75, h76, h77]
 refine hK20 _ _ ?_
 try clear hK20 K20
 refine T_ret ?_
 try simp only [tR, bR, lR]
 exact owes_one (.inr rfl) hwf rfl (by rw [show zeroB n o = false from by simp only [zeroB, if_neg h0, if_pos h72, if_pos h73, if_pos h74, if_pos h75, if_pos h76, if_neg h77]] <;> simp [h0, h72, h73, h74, h75, h76, h77]) (by simp (maxDischargeDepth := 20)) (by simp) (by simp)
 refine T_rg ?_
 simp [h0, h72, h73, h74, h75, h76]
 refine hK2 _ _ ?_
 try clear hK2 K2
 refine T_condF (by first | rfl | simp [h0, h72, h73, h74, h75, h76]) ?_
 refine T_skip ?_
 try simp only [tN, bN, lN]
 refine hK1 _ _ ?_
 try clear hK1 K1
 refine T_seqk fun K21 hK21 => ?_
 by_cases h85 : n.bounds = true
 by_cases h86 : o.lo = 0
 by_cases h87 : o.hi = 0
 by_cases h88 : n.value = true
 refine T_rg ?_
 simp [h0, h72, h73, h74, h75, h76, h85, h86, h87, h88]
 refine hK21 _ _ ?_
 try clear hK21 K21
 refine T_ret ?_
 try simp only [tR, bR, lR]
 by_cases h89 : eqv o.value.kind o.value.bits o.value.text 0 0 ⟨#[]⟩ = true
 exact owes_one (.inr rfl) hwf rfl (by rw [show zeroB n o = true from by simp only [zeroB, if_neg h0, if_pos h72, if_pos h73, if_pos h74, if_pos h75, if_neg h76, if_pos h85, if_pos h86, if_pos h87, if_pos h88, if_pos h89]] <;> simp [h0, h72, h73, h74, h75, h76, h85, h86, h87, h88, h89]) (by simp (maxDischargeDepth := 20)) (by simp) (by simp)
 exact owes_one (.inr rfl) hwf rfl (by rw [show zeroB n o = false from by simp only [zeroB, if_neg h0, if_pos h72, if_pos h73, if_pos h74, if_pos h75, if_neg h76, if_pos h85, if_pos h86, if_pos h87, if_pos h88, if_neg h89]] <;> simp [h0, h72, h73, h74, h75, h76, h85, h86, h87, h88, h89]) (by simp (maxDischargeDepth := 20)) (by simp) (by simp)
 refine T_rg ?_
 simp [h0, h72, h73, h74, h75, h76, h85, h86, h87, h88]
 refine hK21 _ _ ?_
 try clear hK21 K21
 refine T_ret ?_
 try simp only [tR, bR, lR]
 exact owes_one (.inr rfl) hwf rfl (by rw [show zeroB n o = true from by simp only [zeroB, if_neg h0, if_pos h72, if_pos h73, if_pos h74, if_pos h75, if_neg h76, if_pos h85, if_pos h86, if_pos h87, if_neg h88]] <;> simp [h0, h72, h73, h74, h75, h76, h85, h86, h87, h88]) (by simp (maxDischargeDepth := 20)) (by simp) (by simp)
 refine T_rg ?_
 simp [h0, h72, h73, h74, h75, h76, h85, h86, h87]
 refine hK21 _ _ ?_
 try clear hK21 K21
 refine T_ret ?_
 try simp only [tR, bR, lR]
 exact owes_one (.inr rfl) hwf rfl (by rw [show zeroB n o = false from by simp only [zeroB, if_neg h0, if_pos h72, if_pos h73, if_pos h74, if_pos h75, if_neg h76, if_pos h85, if_pos h86, if_neg h87]] <;> simp [h0, h72, h73, h74, h75, h76, h85, h86, h87]) (by simp (maxDischargeDepth := 20)) (by simp) (by simp)
 refine T_rg ?_
 simp [h0, h72, h73, h74, h75, h76, h85, h86]
 refine hK21 _ _ ?_
 try clear hK21 K21
 refine T_ret ?_
 try simp only [tR, bR, lR]
 exact owes_one (.inr rfl) hwf rfl (by rw [show zeroB n o = false from by simp only [zeroB, if_neg h0, if_pos h72, if_pos h73, if_pos h74, if_pos h75, if_neg h76, if_pos h85, if_neg h86]] <;> simp [h0, h72, h73, h74, h75, h76, h85, h86]) (by simp (maxDischargeDepth := 20)) (by simp) (by simp)
 by_cases h90 : n.value = true
 refine T_rg ?_
 simp [h0, h72, h73, h74, h75, h76, h85, h90]
 refine hK21 _ _ ?_
 try clear hK21 K21
 refine T_ret ?_
 try simp only [tR, bR, lR]
 by_cases h91 : eqv o.value.kind o.value.bits o.value.text 0 0 ⟨#[]⟩ = true
 exact owes_one (.inr rfl) hwf rfl (by rw [show zeroB n o = true from by simp only [zeroB, if_neg h0, if_pos h72, if_pos h73, if_pos h74, if_pos h75, if_neg h76, if_neg h85, if_pos h90, if_pos h91]] <;> simp [h0, h72, h73, h74, h75, h76, h85, h90, h91]) (by simp (maxDischargeDepth := 20)) (by simp) (by simp)
 exact owes_one (.inr rfl) hwf rfl (by rw [show zeroB n o = false from by simp only [zeroB, if_neg h0, if_pos h72, if_pos h73, if_pos h74, if_pos h75, if_neg h76, if_neg h85, if_pos h90, if_neg h91]] <;> simp [h0, h72, h73, h74, h75, h76, h85, h90, h91]) (by simp (maxDischargeDepth := 20)) (by simp) (by simp)
 refine T_rg ?_
 simp [h0, h72, h73, h74, h75, h76, h85, h90]
 refine hK21 _ _ ?_
 try clear hK21 K21
 refine T_ret ?_
 try simp only [tR, bR, lR]
 exact owes_one (.inr rfl) hwf rfl (by rw [show zeroB n o = true from by simp only [zeroB, if_neg h0, if_pos h72, if_pos h73, if_pos h74, if_pos h75, if_neg h76, if_neg h85, if_neg h90]] <;> simp [h0, h72, h73, h74, h75, h76, h85, h90]) (by simp (maxDischargeDepth := 20)) (by simp) (by simp)
 refine T_rg ?_
 simp [h0, h72, h73, h74, h75]
 refine hK2 _ _ ?_
 try clear hK2 K2
 refine T_condT (by first | rfl | simp [h0, h72, h73, h74, h75]) ?_
 refine T_sr fun K22 hK22 => ?_
 simp [h0, h72, h73, h74, h75]
 refine hK22 _ _ ?_
 try clear hK22 K22
 refine T_ret ?_
 try simp only [tR, bR, lR]
 exact owes_one (.inr rfl) hwf rfl (by rw [show zeroB n o = false from by simp only [zeroB, if_neg h0, if_pos h72, if_pos h73, if_pos h74, if_neg h75]] <;> simp [h0, h72, h73, h74, h75]) (by simp (maxDischargeDepth := 20)) (by simp) (by simp)
 by_cases h92 : n.d = true
 refine T_rg ?_
 simp [h0, h72, h73, h74, h92]
 refine hK2 _ _ ?_
 try clear hK2 K2
 by_cases h93 : o.d = 0
 refine T_condF (by first | rfl | simp [h0, h72, h73, h74, h92, h93]) ?_
 refine T_skip ?_
 try simp only [tN, bN, lN]
 refine hK1 _ _ ?_
 try clear hK1 K1
 refine T_seqk fun K23 hK23 => ?_
 by_cases h94 : n.bounds = true
 by_cases h95 : o.lo = 0
 by_cases h96 : o.hi = 0
 by_cases h97 : n.value = true
 refine T_rg ?_
 simp [h0, h72, h73, h74, h92, h93, h94, h95, h96, h97]
 refine hK23 _ _ ?_
 try clear hK23 K23
 refine T_ret ?_
 try simp only [tR, bR, lR]
 by_cases h98 : eqv o.value.kind o.value.bits o.value.text 0 0 ⟨#[]⟩ = true
 exact owes_one (.inr rfl) hwf rfl (by rw [show zeroB n o = true from by simp only [zeroB, if_neg h0, if_pos h72, if_pos h73, if_neg h74, if_pos h92, if_pos h93, if_pos h94, if_pos h95, if_pos h96, if_pos h97, if_pos h98]] <;> simp [h0, h72, h73, h74, h92, h93, h94, h95, h96, h97, h98]) (by simp (maxDischargeDepth := 20)) (by simp) (by simp)
 exact owes_one (.inr rfl) hwf rfl (by rw [show zeroB n o = false from by simp only [zeroB, if_neg h0, if_pos h72, if_pos h73, if_neg h74, if_pos h92, if_pos h93, if_pos h94, if_pos h95, if_pos h96, if_pos h97, if_neg h98]] <;> simp [h0, h72, h73, h74, h92, h93, h94, h95, h96, h97, h98]) (by simp (maxDischargeDepth := 20)) (by simp) (by simp)
 refine T_rg ?_
 simp [h0, h72, h73, h74, h92, h93, h94, h95, h96, h97]
 refine hK23 _ _ ?_
 try clear hK23 K23
 refine T_ret ?_
 try simp only [tR, bR, lR]
 exact owes_one (.inr rfl) hwf rfl (by rw [show zeroB n o = true from by simp only [zeroB, if_neg h0, if_pos h72, if_pos h73, if_neg h74, if_pos h92, if_pos h93, if_pos h94, if_pos h95, if_pos h96, if_neg h97]] <;> simp [h0, h72, h73, h74, h92, h93, h94, h95, h96, h97]) (by simp (maxDischargeDepth := 20)) (by simp) (by simp)
 refine T_rg ?_
 simp [h0, h72, h73, h74, h92, h93, h94, h95, h96]
 refine hK23 _ _ ?_
 try clear hK23 K23
 refine T_ret ?_
 try simp only [tR, bR, lR]
 exact owes_one (.inr rfl) hwf rfl (by rw [show zeroB n o = false from by simp only [zeroB, if_neg h0, if_pos h72, if_pos h73, if_neg h74, if_pos h92, if_pos h93, if_pos h94, if_pos h95, if_neg h96]] <;> simp [h0, h72, h73, h74, h92, h93, h94, h95, h96]) (by simp (maxDischargeDepth := 20)) (by simp) (by simp)
 refine T_rg ?_
 simp [h0, h72, h73, h74, h92, h93, h94, h95]
 refine hK23 _ _ ?_
 try clear hK23 K23
 refine T_ret ?_
 try simp only [tR, bR, lR]
 exact owes_one (.inr rfl) hwf rfl (by rw [show zeroB n o = false from by simp only [zeroB, if_neg h0, if_pos h72, if_pos h73, if_neg h74, if_pos h92, if_pos h93, if_pos h94, if_neg h95]] <;> simp [h0, h72, h73, h74, h92, h93, h94, h95]) (by simp (maxDischargeDepth := 20)) (by simp) (by simp)
 by_cases h99 : n.value = true
 refine T_rg ?_
 simp [h0, h72, h73, h74, h92, h93, h94, h99]
 refine hK23 _ _ ?_
 try clear hK23 K23
 refine T_ret ?_
 try simp only [tR, bR, lR]
 by_cases h100 : eqv o.value.kind o.value.bits o.value.text 0 0 ⟨#[]⟩ = true
 exact owes_one (.inr rfl) hwf rfl (by rw [show zeroB n o = true from by simp only [zeroB, if_neg h0, if_pos h72, if_pos h73, if_neg h74, if_pos h92, if_pos h93, if_neg h94, if_pos h99, if_pos h100]] <;> simp [h0, h72, h73, h74, h92, h93, h94, h99, h100]) (by simp (maxDischargeDepth := 20)) (by simp) (by simp)
 exact owes_one (.inr rfl) hwf rfl (by rw [show zeroB n o = false from by simp only [zeroB, if_neg h0, if_pos h72, if_pos h73, if_neg h74, if_pos h92, if_pos h93, if_neg h94, if_pos h99, if_neg h100]] <;> simp [h0, h72, h73, h74, h92, h93, h94, h99, h100]) (by simp (maxDischargeDepth := 20)) (by simp) (by simp)
 refine T_rg ?_
 simp [h0, h72, h73, h74, h92, h93, h94, h99]
 refine hK23 _ _ ?_
 try clear hK23 K23
 refine T_ret ?_
 try simp only [tR, bR, lR]
 exact owes_one (.inr rfl) hwf rfl (by rw [show zeroB n o = true from by simp only [zeroB, if_neg h0, if_pos h72, if_pos h73, if_neg h74, if_pos h92, if_pos h93, if_neg h94, if_neg h99]] <;> simp [h0, h72, h73, h74, h92, h93, h94, h99]) (by simp (maxDischargeDepth := 20)) (by simp) (by simp)
 refine T_condT (by first | rfl | simp [h0, h72, h73, h74, h92, h93]) ?_
 refine T_sr fun K24 hK24 => ?_
 simp [h0, h72, h73, h74, h92, h93]
 refine hK24 _ _ ?_
 try clear hK24 K24
 refine T_ret ?_
 try simp only [tR, bR, lR]
 exact owes_one (.inr rfl) hwf rfl (by rw [show zeroB n o = false from by simp only [zeroB, if_neg h0, if_pos h72, if_pos h73, if_neg h74, if_pos h92, if_neg h93]] <;> simp [h0, h72, h73, h74, h92, h93]) (by simp (maxDischargeDepth := 20)) (by simp) (by simp)
 refine T_rg ?_
 simp [h0, h72, h73, h74, h92]
 refine hK2 _ _ ?_
 try clear hK2 K2
 refine T_condF (by first | rfl | simp [h0, h72, h73, h74, h92]) ?_
 refine T_skip ?_
 try simp only [tN, bN, lN]
 refine hK1 _ _ ?_
 try clear hK1 K1
 refine T_seqk fun K25 hK25 => ?_
 by_cases h101 : n.bounds = true
 by_cases h102 : o.lo = 0
 by_cases h103 : o.hi = 0
 by_cases h104 : n.value = true
 refine T_rg ?_
 simp [h0, h72, h73, h74, h92, h101, h102, h103, h104]
 refine hK25 _ _ ?_
 try clear hK25 K25
 refine T_ret ?_
 try simp only [tR, bR, lR]
 by_cases h105 : eqv o.value.kind o.value.bits o.value.text 0 0 ⟨#[]⟩ = true
 exact owes_one (.inr rfl) hwf rfl (by rw [show zeroB n o = true from by simp only [zeroB, if_neg h0, if_pos h72, if_pos h73, if_neg h74, if_neg h92, if_pos h101, if_pos h102, if_pos h103, if_pos h104, if_pos h105]] <;> simp [h0, h72, h73, h74, h92, h101, h102, h103, h104, h105]) (by simp (maxDischargeDepth := 20)) (by simp) (by simp)
 exact owes_one (.inr rfl) hwf rfl (by rw [show zeroB n o = false from by simp only [zeroB, if_neg h0, if_pos h72, if_pos h73, if_neg h74, if_neg h92, if_pos h101, if_pos h102, if_pos h103, if_pos h104, if_neg h105]] <;> simp [h0, h72, h73, h74, h92, h101, h102, h103, h104, h105]) (by simp (maxDischargeDepth := 20)) (by simp) (by simp)
 refine T_rg ?_
 simp [h0, h72, h73, h74, h92, h101, h102, h103, h104]
 refine hK25 _ _ ?_
 try clear hK25 K25
 refine T_ret ?_
 try simp only [tR, bR, lR]
 exact owes_one (.inr rfl) hwf rfl (by rw [show zeroB n o = true from by simp only [zeroB, if_neg h0, if_pos h72, if_pos h73, if_neg h74, if_neg h92, if_pos h101, if_pos h102, if_pos h103, if_neg h104]] <;> simp [h0, h72, h73, h74, h92, h101, h102, h103, h104]) (by simp (maxDischargeDepth := 20)) (by simp) (by simp)
 refine T_rg ?_
 simp [h0, h72, h73, h74, h92, h101, h102, h103]
 refine hK25 _ _ ?_
 try clear hK25 K25
 refine T_ret ?_
 try simp only [tR, bR, lR]
 exact owes_one (.inr rfl) hwf rfl (by rw [show zeroB n o = false from by simp only [zeroB, if_neg h0, if_pos h72, if_pos h73, if_neg h74, if_neg h92, if_pos h101, if_pos h102, if_neg h103]] <;> simp [h0, h72, h73, h74, h92, h101, h102, h103]) (by simp (maxDischargeDepth := 20)) (by simp) (by simp)
 refine T_rg ?_
 simp [h0, h72, h73, h74, h92, h101, h102]
 refine hK25 _ _ ?_
 try clear hK25 K25
 refine T_ret ?_
 try simp only [tR, bR, lR]
 exact owes_one (.inr rfl) hwf rfl (by rw [show zeroB n o = false from by simp only [zeroB, if_neg h0, if_pos h72, if_pos h73, if_neg h74, if_neg h92, if_pos h101, if_neg h102]] <;> simp [h0, h72, h73, h74, h92, h101, h102]) (by simp (maxDischargeDepth := 20)) (by simp) (by simp)
 by_cases h106 : n.value = true
 refine T_rg ?_
 simp [h0, h72, h73, h74, h92, h101, h106]
 refine hK25 _ _ ?_
 try clear hK25 K25
 refine T_ret ?_
 try simp only [tR, bR, lR]
 by_cases h107 : eqv o.value.kind o.value.bits o.value.text 0 0 ⟨#[]⟩ = true
 exact owes_one (.inr rfl) hwf rfl (by rw [show zeroB n o = true from by simp only [zeroB, if_neg h0, if_pos h72, if_pos h73, if_neg h74, if_neg h92, if_neg h101, if_pos h106, if_pos h107]] <;> simp [h0, h72, h73, h74, h92, h101, h106, h107]) (by simp (maxDischargeDepth := 20)) (by simp) (by simp)
 exact owes_one (.inr rfl) hwf rfl (by rw [show zeroB n o = false from by simp only [zeroB, if_neg h0, if_pos h72, if_pos h73, if_neg h74, if_neg h92, if_neg h101, if_pos h106, if_neg h107]] <;> simp [h0, h72, h73, h74, h92, h101, h106, h107]) (by simp (maxDischargeDepth := 20)) (by simp) (by simp)
 refine T_rg ?_
 simp [h0, h72, h73, h74, h92, h101, h106]
 refine hK25 _ _ ?_
 try clear hK25 K25
 refine T_ret ?_
 try simp only [tR, bR, lR]
 exact owes_one (.inr rfl) hwf rfl (by rw [show zeroB n o = true from by simp only [zeroB, if_neg h0, if_pos h72, if_pos h73, if_neg h74, if_neg h92, if_neg h101, if_neg h106]] <;> simp [h0, h72, h73, h74, h92, h101, h106]) (by simp (maxDischargeDepth := 20)) (by simp) (by simp)
 refine T_rg ?_
 simp [h0, h72, h73]
 refine hK2 _ _ ?_
 try clear hK2 K2
 refine T_condT (by first | rfl | simp [h0, h72, h73]) ?_
 refine T_sr fun K26 hK26 => ?_
 simp [h0, h72, h73]
 refine hK26 _ _ ?_
 try clear hK26 K26
 refine T_ret ?_
 try simp only [tR, bR, lR]
 exact owes_one (.inr rfl) hwf rfl (by rw [show zeroB n o = false from by simp only [zeroB, if_neg h0, if_pos h72, if_neg h73]] <;> simp [h0, h72, h73]) (by simp (maxDischargeDepth := 20)) (by simp) (by simp)
 by_cases h108 : n.c = true
 by_cases h109 : o.c = 0
 by_cases h110 : n.d = true
 refine T_rg ?_
 simp [h0, h72, h108, h109, h110]
 refine hK2 _ _ ?_
 try clear hK2 K2
 by_cases h111 : o.d = 0
 refine T_condF (by first | rfl | simp [h0, h72, h108, h109, h110, h111]) ?_
 refine T_skip ?_
 try simp only [tN, bN, lN]
 refine hK1 _ _ ?_
 try clear hK1 K1
 refine T_seqk fun K27 hK27 => ?_
 by_cases h112 : n.bounds = true
 by_cases h113 : o.lo = 0
 by_cases h114 : o.hi = 0
 by_cases h115 : n.value = true
 refine T_rg ?_
 simp [h0, h72, h108, h109, h110, h111, h112, h113, h114, h115]
 refine hK27 _ _ ?_
 try clear hK27 K27
 refine T_ret ?_
 try simp only [tR, bR, lR]
 by_cases h116 : eqv o.value.kind o.value.bits o.value.text 0 0 ⟨#[]⟩ = true
 exact owes_one (.inr rfl) hwf rfl (by rw [show zeroB n o = true from by simp only [zeroB, if_neg h0, if_neg h72, if_pos h108, if_pos h109, if_pos h110, if_pos h111, if_pos h112, if_pos h113, if_pos h114, if_pos h115, if_pos h116]] <;> simp [h0, h72, h108, h109, h110, h111, h112, h113, h114, h115, h116]) (by simp (maxDischargeDepth := 20)) (by simp) (by simp)
 exact owes_one (.inr rfl) hwf rfl (by rw [show zeroB n o = false from by simp only [zeroB, if_neg h0, if_neg h72, if_pos h108, if_pos h109, if_pos h110, if_pos h111, if_pos h112, if_pos h113, if_pos h114, if_pos h115, if_neg h116]] <;> simp [h0, h72, h108, h109, h110, h111, h112, h113, h114, h115, h116]) (by simp (maxDischargeDepth := 20)) (by simp) (by simp)
 refine T_rg ?_
 simp [h0, h72, h108, h109, h110, h111, h112, h113, h114, h115]
 refine hK27 _ _ ?_
 try clear hK27 K27
 refine T_ret ?_
 try simp only [tR, bR, lR]
 exact owes_one (.inr rfl) hwf rfl (by rw [show zeroB n o = true from by simp only [zeroB, if_neg h0, if_neg h72, if_pos h108, if_pos h109, if_pos h110, if_pos h111, if_pos h112, if_pos h113, if_pos h114, if_neg h115]] <;> simp [h0, h72, h108, h109, h110, h111, h112, h113, h114, h115]) (by simp (maxDischargeDepth := 20)) (by simp) (by simp)
 refine T_rg ?_
 simp [h0, h72, h108, h109, h110, h111, h112, h113, h114]
 refine hK27 _ _ ?_
 try clear hK27 K27
 refine T_ret ?_
 try simp only [tR, bR, lR]
 exact owes_one (.inr rfl) hwf rfl (by rw [show zeroB n o = false from by simp only [zeroB, if_neg h0, if_neg h72, if_pos h108, if_pos h109, if_pos h110, if_pos h111, if_pos h112, if_pos h113, if_neg h114]] <;> simp [h0, h72, h108, h109, h110, h111, h112, h113, h114]) (by simp (maxDischargeDepth := 20)) (by simp) (by simp)
 refine T_rg ?_
 simp [h0, h72, h108, h109, h110, h111, h112, h113]
 refine hK27 _ _ ?_
 try clear hK27 K27
 refine T_ret ?_
 try simp only [tR, bR, lR]
 exact owes_one (.inr rfl) hwf rfl (by rw [show zeroB n o = false from by simp only [zeroB, if_neg h0, if_neg h72, if_pos h108, if_pos h109, if_pos h110, if_pos h111, if_pos h112, if_neg h113]] <;> simp [h0, h72, h108, h109, h110, h111, h112, h113]) (by simp (maxDischargeDepth := 20)) (by simp) (by simp)
 by_cases h117 : n.value = true
 refine T_rg ?_
 simp [h0, h72, h108, h109, h110, h111, h112, h117]
 refine hK27 _ _ ?_
 try clear hK27 K27
 refine T_ret ?_
 try simp only [tR, bR, lR]
 by_cases h118 : eqv o.value.kind o.value.bits o.value.text 0 0 ⟨#[]⟩ = true
 exact owes_one (.inr rfl) hwf rfl (by rw [show zeroB n o = true from by simp only [zeroB, if_neg h0, if_neg h72, if_pos h108, if_pos h109, if_pos h110, if_pos h111, if_neg h112, if_pos h117, if_pos h118]] <;> simp [h0, h72, h108, h109, h110, h111, h112, h117, h118]) (by simp (maxDischargeDepth := 20)) (by simp) (by simp)
 exact owes_one (.inr rfl) hwf rfl (by rw [show zeroB n o = false from by simp only [zeroB, if_neg h0, if_neg h72, if_pos h108, if_pos h109, if_pos h110, if_pos h111, if_neg h112, if_pos h117, if_neg h118]] <;> simp [h0, h72, h108, h109, h110, h111, h112, h117, h118]) (by simp (maxDischargeDepth := 20)) (by simp) (by simp)
 refine T_rg ?_
 simp [h0, h72, h108, h109, h110, h111, h112, h117]
 refine hK27 _ _ ?_
 try clear hK27 K27
 refine T_ret ?_
 try simp only [tR, bR, lR]
 exact owes_one (.inr rfl) hwf rfl (by rw [show zeroB n o = true from by simp only [zeroB, if_neg h0, if_neg h72, if_pos h108, if_pos h109, if_pos h110, if_pos h111, if_neg h112, if_neg h117]] <;> simp [h0, h72, h108, h109, h110, h111, h112, h117]) (by simp (maxDischargeDepth := 20)) (by simp) (by simp)
 refine T_condT (by first | rfl | simp [h0, h72, h108, h109, h110, h111]) ?_
 refine T_sr fun K28 hK28 => ?_
 simp [h0, h72, h108, h109, h110, h111]
 refine hK28 _ _ ?_
 try clear hK28 K28
 refine T_ret ?_
 try simp only [tR, bR, lR]
 exact owes_one (.inr rfl) hwf rfl (by rw [show zeroB n o = false from by simp only [zeroB, if_neg h0, if_neg h72, if_pos h108, if_pos h109, if_pos h110, if_neg h111]] <;> simp [h0, h72, h108, h109, h110, h111]) (by simp (maxDischargeDepth := 20)) (by simp) (by simp)
 refine T_rg ?_
 simp [h0, h72, h108, h109, h110]
 refine hK2 _ _ ?_
 try clear hK2 K2
 refine T_condF (by first | rfl | simp [h0, h72, h108, h109, h110]) ?_
 refine T_skip ?_
 try simp only [tN, bN, lN]
 refine hK1 _ _ ?_
 try clear hK1 K1
 refine T_seqk fun K29 hK29 => ?_
 by_cases h119 : n.bounds = true
 by_cases h120 : o.lo = 0
 by_cases h121 : o.hi = 0
 by_cases h122 : n.value = true
 refine T_rg ?_
 simp [h0, h72, h108, h109, h110, h119, h120, h121, h122]
 refine hK29 _ _ ?_
 try clear hK29 K29
 refine T_ret ?_
 try simp only [tR, bR, lR]
 by_cases h123 : eqv o.value.kind o.value.bits o.value.text 0 0 ⟨#[]⟩ = true
 exact owes_one (.inr rfl) hwf rfl (by rw [show zeroB n o = true from by simp only [zeroB, if_neg h0, if_neg h72, if_pos h108, if_pos h109, if_neg h110, if_pos h119, if_pos h120, if_pos h121, if_pos h122, if_pos h123]] <;> simp [h0, h72, h108, h109, h110, h119, h120, h121, h122, h123]) (by simp (maxDischargeDepth := 20)) (by simp) (by simp)
 exact owes_one (.inr rfl) hwf rfl (by rw [show zeroB n o = false from by simp only [zeroB, if_neg h0, if_neg h72, if_pos h108, if_pos h109, if_neg h110, if_pos h119, if_pos h120, if_pos h121, if_pos h122, if_neg h123]] <;> simp [h0, h72, h108, h109, h110, h119, h120, h121, h122, h123]) (by simp (maxDischargeDepth := 20)) (by simp) (by simp)
 refine T_rg ?_
 simp [h0, h72, h108, h109, h110, h119, h120, h121, h122]
 refine hK29 _ _ ?_
 try clear hK29 K29
 refine T_ret ?_
 try simp only [tR, bR, lR]
 exact owes_one (.inr rfl) hwf rfl (by rw [show zeroB n o = true from by simp only [zeroB, if_neg h0, if_neg h72, if_pos h108, if_pos h109, if_neg h110, if_pos h119, if_pos h120, if_pos h121, if_neg h122]] <;> simp [h0, h72, h108, h109, h110, h119, h120, h121, h122]) (by simp (maxDischargeDepth := 20)) (by simp) (by simp)
 refine T_rg ?_
 simp [h0, h72, h108, h109, h110, h119, h120, h121]
 refine hK29 _ _ ?_
 try clear hK29 K29
 refine T_ret ?_
 try simp only [tR, bR, lR]
 exact owes_one (.inr rfl) hwf rfl (by rw [show zeroB n o = false from by simp only [zeroB, if_neg h0, if_neg h72, if_pos h108, if_pos h109, if_neg h110, if_pos h119, if_pos h120, if_neg h121]] <;> simp [h0, h72, h108, h109, h110, h119, h120, h121]) (by simp (maxDischargeDepth := 20)) (by simp) (by simp)
 refine T_rg ?_
 simp [h0, h72, h108, h109, h110, h119, h120]
 refine hK29 _ _ ?_
 try clear hK29 K29
 refine T_ret ?_
 try simp only [tR, bR, lR]
 exact owes_one (.inr rfl) hwf rfl (by rw [show zeroB n o = false from by simp only [zeroB, if_neg h0, if_neg h72, if_pos h108, if_pos h109, if_neg h110, if_pos h119, if_neg h120]] <;> simp [h0, h72, h108, h109, h110, h119, h120]) (by simp (maxDischargeDepth := 20)) (by simp) (by simp)
 by_cases h124 : n.value = true
 refine T_rg ?_
 simp [h0, h72, h108, h109, h110, h119, h124]
 refine hK29 _ _ ?_
 try clear hK29 K29
 refine T_ret ?_
 try simp only [tR, bR, lR]
 by_cases h125 : eqv o.value.kind o.value.bits o.value.text 0 0 ⟨#[]⟩ = true
 exact owes_one (.inr rfl) hwf rfl (by rw [show zeroB n o = true from by simp only [zeroB, if_neg h0, if_neg h72, if_pos h108, if_pos h109, if_neg h110, if_neg h119, if_pos h124, if_pos h125]] <;> simp [h0, h72, h108, h109, h110, h119, h124, h125]) (by simp (maxDischargeDepth := 20)) (by simp) (by simp)
 exact owes_one (.inr rfl) hwf rfl (by rw [show zeroB n o = false from by simp only [zeroB, if_neg h0, if_neg h72, if_pos h108, if_pos h109, if_neg h110, if_neg h119, if_pos h124, if_neg h125]] <;> simp [h0, h72, h108, h109, h110, h119, h124, h125]) (by simp (maxDischargeDepth := 20)) (by simp) (by simp)
 refine T_rg ?_
 simp [h0, h72, h108, h109, h110, h119, h124]
 refine hK29 _ _ ?_
 try clear hK29 K29
 refine T_ret ?_
 try simp only [tR, bR, lR]
 exact owes_one (.inr rfl) hwf rfl (by rw [show zeroB n o = true from by simp only [zeroB, if_neg h0, if_neg h72, if_pos h108, if_pos h109, if_neg h110, if_neg h119, if_neg h124]] <;> simp [h0, h72, h108, h109, h110, h119, h124]) (by simp (maxDischargeDepth := 20)) (by simp) (by simp)
 refine T_rg ?_
 simp [h0, h72, h108, h109]
 refine hK2 _ _ ?_
 try clear hK2 K2
 refine T_condT (by first | rfl | simp [h0, h72, h108, h109]) ?_
 refine T_sr fun K30 hK30 => ?_
 simp [h0, h72, h108, h109]
 refine hK30 _ _ ?_
 try clear hK30 K30
 refine T_ret ?_
 try simp only [tR, bR, lR]
 exact owes_one (.inr rfl) hwf rfl (by rw [show zeroB n o = false from by simp only [zeroB, if_neg h0, if_neg h72, if_pos h108, if_neg h109]] <;> simp [h0, h72, h108, h109]) (by simp (maxDischargeDepth := 20)) (by simp) (by simp)
 by_cases h126 : n.d = true
 refine T_rg ?_
 simp [h0, h72, h108, h126]
 refine hK2 _ _ ?_
 try clear hK2 K2
 by_cases h127 : o.d = 0
 refine T_condF (by first | rfl | simp [h0, h72, h108, h126, h127]) ?_
 refine T_skip ?_
 try simp only [tN, bN, lN]
 refine hK1 _ _ ?_
 try clear hK1 K1
 refine T_seqk fun K31 hK31 => ?_
 by_cases h128 : n.bounds = true
 by_cases h129 : o.lo = 0
 by_cases h130 : o.hi = 0
 by_cases h131 : n.value = true
 refine T_rg ?_
 simp [h0, h72, h108, h126, h127, h128, h129, h130, h131]
 refine hK31 _ _ ?_
 try clear hK31 K31
 refine T_ret ?_
 try simp only [tR, bR, lR]
 by_cases h132 : eqv o.value.kind o.value.bits o.value.text 0 0 ⟨#[]⟩ = true
 exact owes_one (.inr rfl) hwf rfl (by rw [show zeroB n o = true from by simp only [zeroB, if_neg h0, if_neg h72, if_neg h108, if_pos h126, if_pos h127, if_pos h128, if_pos h129, if_pos h130, if_pos h131, if_pos h132]] <;> simp [h0, h72, h108, h126, h127, h128, h129, h130, h131, h132]) (by simp (maxDischargeDepth := 20)) (by simp) (by simp)
 exact owes_one (.inr rfl) hwf rfl (by rw [show zeroB n o = false from by simp only [zeroB, if_neg h0, if_neg h72, if_neg h108, if_pos h126, if_pos h127, if_pos h128, if_pos h129, if_pos h130, if_pos h131, if_neg h132]] <;> simp [h0, h72, h108, h126, h127, h128, h129, h130, h131, h132]) (by simp (maxDischargeDepth := 20)) (by simp) (by simp)
 refine T_rg ?_
 simp [h0, h72, h108, h126, h127, h128, h129, h130, h131]
 refine hK31 _ _ ?_
 try clear hK31 K31
 refine T_ret ?_
 try simp only [tR, bR, lR]
 exact owes_one (.inr rfl) hwf rfl (by rw [show zeroB n o = true from by simp only [zeroB, if_neg h0, if_neg h72, if_neg h108, if_pos h126, if_pos h127, if_pos h128, if_pos h129, if_pos h130, if_neg h131]] <;> simp [h0, h72, h108, h126, h127, h128, h129, h130, h131]) (by simp (maxDischargeDepth := 20)) (by simp) (by simp)
 refine T_rg ?_
 simp [h0, h72, h108, h126, h127, h128, h129, h130]
 refine hK31 _ _ ?_
 try clear hK31 K31
 refine T_ret ?_
 try simp only [tR, bR, lR]
 exact owes_one (.inr rfl) hwf rfl (by rw [show zeroB n o = false from by simp only [zeroB, if_neg h0, if_neg h72, if_neg h108, if_pos h126, if_pos h127, if_pos h128, if_pos h129, if_neg h130]] <;> simp [h0, h72, h108, h126, h127, h128, h129, h130]) (by simp (maxDischargeDepth := 20)) (by simp) (by simp)
 refine T_rg ?_
 simp [h0, h72, h108, h126, h127, h128, h129]
 refine hK31 _ _ ?_
 try clear hK31 K31
 refine T_ret ?_
 try simp only [tR, bR, lR]
 exact owes_one (.inr rfl) hwf rfl (by rw [show zeroB n o = false from by simp only [zeroB, if_neg h0, if_neg h72, if_neg h108, if_pos h126, if_pos h127, if_pos h128, if_neg h129]] <;> simp [h0, h72, h108, h126, h127, h128, h129]) (by simp (maxDischargeDepth := 20)) (by simp) (by simp)
 by_cases h133 : n.value = true
 refine T_rg ?_
 simp [h0, h72, h108, h126, h127, h128, h133]
 refine hK31 _ _ ?_
 try clear hK31 K31
 refine T_ret ?_
 try simp only [tR, bR, lR]
 by_cases h134 : eqv o.value.kind o.value.bits o.value.text 0 0 ⟨#[]⟩ = true
 exact owes_one (.inr rfl) hwf rfl (by rw [show zeroB n o = true from by simp only [zeroB, if_neg h0, if_neg h72, if_neg h108, if_pos h126, if_pos h127, if_neg h128, if_pos h133, if_pos h134]] <;> simp [h0, h72, h108, h126, h127, h128, h133, h134]) (by simp (maxDischargeDepth := 20)) (by simp) (by simp)
 exact owes_one (.inr rfl) hwf rfl (by rw [show zeroB n o = false from by simp only [zeroB, if_neg h0, if_neg h72, if_neg h108, if_pos h126, if_pos h127, if_neg h128, if_pos h133, if_neg h134]] <;> simp [h0, h72, h108, h126, h127, h128, h133, h134]) (by simp (maxDischargeDepth := 20)) (by simp) (by simp)
 refine T_rg ?_
 simp [h0, h72, h108, h126, h127, h128, h133]
 refine hK31 _ _ ?_
 try clear hK31 K31
 refine T_ret ?_
 try simp only [tR, bR, lR]
 exact owes_one (.inr rfl) hwf rfl (by rw [show zeroB n o = true from by simp only [zeroB, if_neg h0, if_neg h72, if_neg h108, if_pos h126, if_pos h127, if_neg h128, if_neg h133]] <;> simp [h0, h72, h108, h126, h127, h128, h133]) (by simp (maxDischargeDepth := 20)) (by simp) (by simp)
 refine T_condT (by first | rfl | simp [h0, h72, h108, h126, h127]) ?_
 refine T_sr fun K32 hK32 => ?_
 simp [h0, h72, h108, h126, h127]
 refine hK32 _ _ ?_
 try clear hK32 K32
 refine T_ret ?_
 try simp only [tR, bR, lR]
 exact owes_one (.inr rfl) hwf rfl (by rw [show zeroB n o = false from by simp only [zeroB, if_neg h0, if_neg h72, if_neg h108, if_pos h126, if_neg h127]] <;> simp [h0, h72, h108, h126, h127]) (by simp (maxDischargeDepth := 20)) (by simp) (by simp)
 refine T_rg ?_
 simp [h0, h72, h108, h126]
 refine hK2 _ _ ?_
 try clear hK2 K2
 refine T_condF (by first | rfl | simp [h0, h72, h108, h126]) ?_
 refine T_skip ?_
 try simp only [tN, bN, lN]
 refine hK1 _ _ ?_
 try clear hK1 K1
 refine T_seqk fun K33 hK33 => ?_
 by_cases h135 : n.bounds = true
 by_cases h136 : o.lo = 0
 by_cases h137 : o.hi = 0
 by_cases h138 : n.value = true
 refine T_rg ?_
 simp [h0, h72, h108, h126, h135, h136, h137, h138]
 refine hK33 _ _ ?_
 try clear hK33 K33
 refine T_ret ?_
 try simp only [tR, bR, lR]
 by_cases h139 : eqv o.value.kind o.value.bits o.value.text 0 0 ⟨#[]⟩ = true
 exact owes_one (.inr rfl) hwf rfl (by rw [show zeroB n o = true from by simp only [zeroB, if_neg h0, if_neg h72, if_neg h108, if_neg h126, if_pos h135, if_pos h136, if_pos h137, if_pos h138, if_pos h139]] <;> simp [h0, h72, h108, h126, h135, h136, h137, h138, h139]) (by simp (maxDischargeDepth := 20)) (by simp) (by simp)
 exact owes_one (.inr rfl) hwf rfl (by rw [show zeroB n o = false from by simp only [zeroB, if_neg h0, if_neg h72, if_neg h108, if_neg h126, if_pos h135, if_pos h136, if_pos h137, if_pos h138, if_neg h139]] <;> simp [h0, h72, h108, h126, h135, h136, h137, h138, h139]) (by simp (maxDischargeDepth := 20)) (by simp) (by simp)
 refine T_rg ?_
 simp [h0, h72, h108, h126, h135, h136, h137, h138]
 refine hK33 _ _ ?_
 try clear hK33 K33
 refine T_ret ?_
 try simp only [tR, bR, lR]
 exact owes_one (.inr rfl) hwf rfl (by rw [show zeroB n o = true from by simp only [zeroB, if_neg h0, if_neg h72, if_neg h108, if_neg h126, if_pos h135, if_pos h136, if_pos h137, if_neg h138]] <;> simp [h0, h72, h108, h126, h135, h136, h137, h138]) (by simp (maxDischargeDepth := 20)) (by simp) (by simp)
 refine T_rg ?_
 simp [h0, h72, h108, h126, h135, h136, h137]
 refine hK33 _ _ ?_
 try clear hK33 K33
 refine T_ret ?_
 try simp only [tR, bR, lR]
 exact owes_one (.inr rfl) hwf rfl (by rw [show zeroB n o = false from by simp only [zeroB, if_neg h0, if_neg h72, if_neg h108, if_neg h126, if_pos h135, if_pos h136, if_neg h137]] <;> simp [h0, h72, h108, h126, h135, h136, h137]) (by simp (maxDischargeDepth := 20)) (by simp) (by simp)
 refine T_rg ?_
 simp [h0, h72, h108, h126, h135, h136]
 refine hK33 _ _ ?_
 try clear hK33 K33
 refine T_ret ?_
 try simp only [tR, bR, lR]
 exact owes_one (.inr rfl) hwf rfl (by rw [show zeroB n o = false from by simp only [zeroB, if_neg h0, if_neg h72, if_neg h108, if_neg h126, if_pos h135, if_neg h136]] <;> simp [h0, h72, h108, h126, h135, h136]) (by simp (maxDischargeDepth := 20)) (by simp) (by simp)
 by_cases h140 : n.value = true
 refine T_rg ?_
 simp [h0, h72, h108, h126, h135, h140]
 refine hK33 _ _ ?_
 try clear hK33 K33
 refine T_ret ?_
 try simp only [tR, bR, lR]
 by_cases h141 : eqv o.value.kind o.value.bits o.value.text 0 0 ⟨#[]⟩ = true
 exact owes_one (.inr rfl) hwf rfl (by rw [show zeroB n o = true from by simp only [zeroB, if_neg h0, if_neg h72, if_neg h108, if_neg h126, if_neg h135, if_pos h140, if_pos h141]] <;> simp [h0, h72, h108, h126, h135, h140, h141]) (by simp (maxDischargeDepth := 20)) (by simp) (by simp)
 exact owes_one (.inr rfl) hwf rfl (by rw [show zeroB n o = false from by simp only [zeroB, if_neg h0, if_neg h72, if_neg h108, if_neg h126, if_neg h135, if_pos h140, if_neg h141]] <;> simp [h0, h72, h108, h126, h135, h140, h141]) (by simp (maxDischargeDepth := 20)) (by simp) (by simp)
 refine T_rg ?_
 simp [h0, h72, h108, h126, h135, h140]
 refine hK33 _ _ ?_
 try clear hK33 K33
 refine T_ret ?_
 try simp only [tR, bR, lR]
 exact owes_one (.inr rfl) hwf rfl (by rw [show zeroB n o = true from by simp only [zeroB, if_neg h0, if_neg h72, if_neg h108, if_neg h126, if_neg h135, if_neg h140]] <;> simp [h0, h72, h108, h126, h135, h140]) (by simp (maxDischargeDepth := 20)) (by simp) (by simp)
def flowB (k : DLook) (o : DOp) : Bool := if o.code = 16 then (if placeB k o.b = true then (if zeroB ({ a := true, b := false, c := true, d := true, bounds := true, value := true } : DNeed) ({ code := 16, a := o.a, b := o.b, c := o.c, d := o.d, lo := o.lo, hi := o.hi, value := o.value } : DOp) = true then true else false) else false) else if o.code = 17 then (if regB k o.a = true then (if placeB k o.b = true then (if zeroB ({ a := false, b := false, c := true, d := true, bounds := true, value := true } : DNeed) ({ code := 17, a := o.a, b := o.b, c := o.c, d := o.d, lo := o.lo, hi := o.hi, value := o.value } : DOp) = true then true else false) else false) else false) else if o.code = 18 then (if 0 ≤ o.b then (if o.b < k.codes then (if areaB o.c = true then (if numberB o.d 4096 = true then (if zeroB ({ a := true, b := false, c := false, d := false, bounds := true, value := true } : DNeed) ({ code := 18, a := o.a, b := o.b, c := o.c, d := o.d, lo := o.lo, hi := o.hi, value := o.value } : DOp) = true then true else false) else false) else false) else false) else false) else if o.code = 19 then (if 1 ≤ o.b then (if o.b ≤ 10 then (if areaB o.c = true then (if numberB o.d 4096 = true then (if zeroB ({ a := true, b := false, c := false, d := false, bounds := true, value := true } : DNeed) ({ code := 19, a := o.a, b := o.b, c := o.c, d := o.d, lo := o.lo, hi := o.hi, value := o.value } : DOp) = true then true else false) else false) else false) else false) else false) else if o.code = 20 then (if 1 ≤ o.a then (if o.a ≤ 10 then (if zeroB ({ a := false, b := true, c := true, d := true, bounds := true, value := true } : DNeed) ({ code := 20, a := o.a, b := o.b, c := o.c, d := o.d, lo := o.lo, hi := o.hi, value := o.value } : DOp) = true then true else false) else false) else false) else if o.code = 21 then (if zeroB ({ a := true, b := true, c := true, d := true, bounds := true, value := true } : DNeed) ({ code := 21, a := o.a, b := o.b, c := o.c, d := o.d, lo := o.lo, hi := o.hi, value := o.value } : DOp) = true then true else false) else if o.code = 22 then (if regB k o.a = true then (if slotB k o.b = true then (if zeroB ({ a := false, b := false, c := true, d := true, bounds := true, value := true } : DNeed) ({ code := 22, a := o.a, b := o.b, c := o.c, d := o.d, lo := o.lo, hi := o.hi, value := o.value } : DOp) = true then true else false) else false) else false) else if o.code = 23 then (if regB k o.a = true then (if slotB k o.b = true then (if zeroB ({ a := false, b := false, c := true, d := true, bounds := true, value := true } : DNeed) ({ code := 23, a := o.a, b := o.b, c := o.c, d := o.d, lo := o.lo, hi := o.hi, value := o.value } : DOp) = true then true else false) else false) else false) else false
set_option maxRecDepth 100000 in
set_option maxHeartbeats 4000000 in
theorem flowIs (H : AS)  (c : Nat) (k : DLook) (o : DOp) : ACalls Tryz.prog 109 [.agg (k.row c), .agg (o.row)] H fun q H' => q = pb (flowB k o) ∧ H' = H := by
 refine ACalls_intro Tryz.func109 rfl (by kernel_rfl) (by simp) fun hwf hbel => ?_
 refine T_sr fun K0 hK0 => ?_
 simp
 refine hK0 _ _ ?_
 try clear hK0 K0
 refine T_sr fun K1 hK1 => ?_
 simp
 refine hK1 _ _ ?_
 try clear hK1 K1
 refine T_sr fun K2 hK2 => ?_
 simp
 refine hK2 _ _ ?_
 try clear hK2 K2
 refine T_seqk fun K3 hK3 => ?_
 refine T_sr fun K4 hK4 => ?_
 simp
 refine hK4 _ _ ?_
 try clear hK4 K4
 refine T_block ?_
 refine T_sr fun K5 hK5 => ?_
 simp
 refine hK5 _ _ ?_
 try clear hK5 K5
 by_cases h0 : o.code = 16
 refine T_condT (by first | rfl | simp [h0]) ?_
 refine T_sr fun K6 hK6 => ?_
 simp [h0]
 refine hK6 _ _ ?_
 try clear hK6 K6
 refine T_rg ?_
 simp [h0]
 refine callK.of (placeIs _ c k o.b) ?_
 rintro _ Hz ⟨rfl, hz⟩
 subst Hz
 simp [h0]
 refine hK3 _ _ ?_
 try clear hK3 K3
 refine T_seqk fun K7 hK7 => ?_
 by_cases h1 : placeB k o.b = true
 refine T_rg ?_
 simp [h0, h1]
 refine callK.of (zeroIs _ ({ a := true, b := false, c := true, d := true, bounds := true, value := true } : DNeed) ({ code := 16, a := o.a, b := o.b, c := o.c, d := o.d, lo := o.lo, hi := o.hi, value := o.value } : DOp)) ?_
 rintro _ Hz ⟨rfl, hz⟩
 subst Hz
 simp [h0, h1]
 refine hK7 _ _ ?_
 try clear hK7 K7
 refine T_ret ?_
 try simp only [tR, bR, lR]
 by_cases h2 : zeroB ({ a := true, b := false, c := true, d := true, bounds := true, value := true } : DNeed) ({ code := 16, a := o.a, b := o.b, c := o.c, d := o.d, lo := o.lo, hi := o.hi, value := o.value } : DOp) = true
 exact owes_one (.inr rfl) hwf rfl (by rw [show flowB k o = true from by simp only [flowB, if_pos h0, if_pos h1, if_pos h2]] <;> simp [h0, h1, h2]) (by simp (maxDischargeDepth := 20)) (by simp) (by simp)
 exact owes_one (.inr rfl) hwf rfl (by rw [show flowB k o = false from by simp only [flowB, if_pos h0, if_pos h1, if_neg h2]] <;> simp [h0, h1, h2]) (by simp (maxDischargeDepth := 20)) (by simp) (by simp)
 refine T_rg ?_
 simp [h0, h1]
 refine hK7 _ _ ?_
 try clear hK7 K7
 refine T_ret ?_
 try simp only [tR, bR, lR]
 exact owes_one (.inr rfl) hwf rfl (by rw [show flowB k o = false from by simp only [flowB, if_pos h0, if_neg h1]] <;> simp [h0, h1]) (by simp (maxDischargeDepth := 20)) (by simp) (by simp)
 refine T_condF (by first | rfl | simp [h0]) ?_
 refine T_sr fun K8 hK8 => ?_
 simp [h0]
 refine hK8 _ _ ?_
 try clear hK8 K8
 by_cases h3 : o.code = 17
 refine T_condT (by first | rfl | simp [h0, h3]) ?_
 refine T_sr fun K9 hK9 => ?_
 simp [h0, h3]
 refine hK9 _ _ ?_
 try clear hK9 K9
 by_cases h4 : regB k o.a = true
 refine T_rg ?_
 simp [h0, h3, h4]
 refine callK.of (regIs _ c k o.a) ?_
 rintro _ Hz ⟨rfl, hz⟩
 subst Hz
 simp [h0, h3, h4]
 refine callK.of (placeIs _ c k o.b) ?_
 rintro _ Hz ⟨rfl, hz⟩
 subst Hz
 simp [h0, h3, h4]
 refine hK3 _ _ ?_
 try clear hK3 K3
 refine T_seqk fun K10 hK10 => ?_
 by_cases h5 : placeB k o.b = true
 refine T_rg ?_
 simp [h0, h3, h4, h5]
 refine callK.of (zeroIs _ ({ a := false, b := false, c := true, d := true, bounds := true, value := true } : DNeed) ({ code := 17, a := o.a, b := o.b, c := o.c, d := o.d, lo := o.lo, hi := o.hi, value := o.value } : DOp)) ?_
 rintro _ Hz ⟨rfl, hz⟩
 subst Hz
 simp [h0, h3, h4, h5]
 refine hK10 _ _ ?_
 try clear hK10 K10
 refine T_ret ?_
 try simp only [tR, bR, lR]
 by_cases h6 : zeroB ({ a := false, b := false, c := true, d := true, bounds := true, value := true } : DNeed) ({ code := 17, a := o.a, b := o.b, c := o.c, d := o.d, lo := o.lo, hi := o.hi, value := o.value } : DOp) = true
 exact owes_one (.inr rfl) hwf rfl (by rw [show flowB k o = true from by simp only [flowB, if_neg h0, if_pos h3, if_pos h4, if_pos h5, if_pos h6]] <;> simp [h0, h3, h4, h5, h6]) (by simp (maxDischargeDepth := 20)) (by simp) (by simp)
 exact owes_one (.inr rfl) hwf rfl (by rw [show flowB k o = false from by simp only [flowB, if_neg h0, if_pos h3, if_pos h4, if_pos h5, if_neg h6]] <;> simp [h0, h3, h4, h5, h6]) (by simp (maxDischargeDepth := 20)) (by simp) (by simp)
 refine T_rg ?_
 simp [h0, h3, h4, h5]
 refine hK10 _ _ ?_
 try clear hK10 K10
 refine T_ret ?_
 try simp only [tR, bR, lR]
 exact owes_one (.inr rfl) hwf rfl (by rw [show flowB k o = false from by simp only [flowB, if_neg h0, if_pos h3, if_pos h4, if_neg h5]] <;> simp [h0, h3, h4, h5]) (by simp (maxDischargeDepth := 20)) (by simp) (by simp)
 refine T_rg ?_
 simp [h0, h3, h4]
 refine callK.of (regIs _ c k o.a) ?_
 rintro _ Hz ⟨rfl, hz⟩
 subst Hz
 simp [h0, h3, h4]
 refine hK3 _ _ ?_
 try clear hK3 K3
 refine T_sr fun K11 hK11 => ?_
 simp [h0, h3, h4]
 refine hK11 _ _ ?_
 try clear hK11 K11
 refine T_ret ?_
 try simp only [tR, bR, lR]
 exact owes_one (.inr rfl) hwf rfl (by rw [show flowB k o = false from by simp only [flowB, if_neg h0, if_pos h3, if_neg h4]] <;> simp [h0, h3, h4]) (by simp (maxDischargeDepth := 20)) (by simp) (by simp)
 refine T_condF (by first | rfl | simp [h0, h3]) ?_
 refine T_sr fun K12 hK12 => ?_
 simp [h0, h3]
 refine hK12 _ _ ?_
 try clear hK12 K12
 by_cases h7 : o.code = 18
 refine T_condT (by first | rfl | simp [h0, h3, h7]) ?_
 refine T_sr fun K13 hK13 => ?_
 simp [h0, h3, h7]
 refine hK13 _ _ ?_
 try clear hK13 K13
 by_cases h8 : 0 ≤ o.b
 by_cases h9 : o.b < k.codes
 by_cases h10 : areaB o.c = true
 refine T_rg ?_
 simp [h0, h3, h7, h8, h9, h10]
 refine callK.of (areaIs _ o.c) ?_
 rintro _ Hz ⟨rfl, hz⟩
 subst Hz
 simp [h0, h3, h7, h8, h9, h10]
 refine callK.of (numberIs _ o.d 4096) ?_
 rintro _ Hz ⟨rfl, hz⟩
 subst Hz
 simp [h0, h3, h7, h8, h9, h10]
 refine hK3 _ _ ?_
 try clear hK3 K3
 refine T_seqk fun K14 hK14 => ?_
 by_cases h11 : numberB o.d 4096 = true
 refine T_rg ?_
 simp [h0, h3, h7, h8, h9, h10, h11]
 refine callK.of (zeroIs _ ({ a := true, b := false, c := false, d := false, bounds := true, value := true } : DNeed) ({ code := 18, a := o.a, b := o.b, c := o.c, d := o.d, lo := o.lo, hi := o.hi, value := o.value } : DOp)) ?_
 rintro _ Hz ⟨rfl, hz⟩
 subst Hz
 simp [h0, h3, h7, h8, h9, h10, h11]
 refine hK14 _ _ ?_
 try clear hK14 K14
 refine T_ret ?_
 try simp only [tR, bR, lR]
 by_cases h12 : zeroB ({ a := true, b := false, c := false, d := false, bounds := true, value := true } : DNeed) ({ code := 18, a := o.a, b := o.b, c := o.c, d := o.d, lo := o.lo, hi := o.hi, value := o.value } : DOp) = true
 exact owes_one (.inr rfl) hwf rfl (by rw [show flowB k o = true from by simp only [flowB, if_neg h0, if_neg h3, if_pos h7, if_pos h8, if_pos h9, if_pos h10, if_pos h11, if_pos h12]] <;> simp [h0, h3, h7, h8, h9, h10, h11, h12]) (by simp (maxDischargeDepth := 20)) (by simp) (by simp)
 exact owes_one (.inr rfl) hwf rfl (by rw [show flowB k o = false from by simp only [flowB, if_neg h0, if_neg h3, if_pos h7, if_pos h8, if_pos h9, if_pos h10, if_pos h11, if_neg h12]] <;> simp [h0, h3, h7, h8, h9, h10, h11, h12]) (by simp (maxDischargeDepth := 20)) (by simp) (by simp)
 refine T_rg ?_
 simp [h0, h3, h7, h8, h9, h10, h11]
 refine hK14 _ _ ?_
 try clear hK14 K14
 refine T_ret ?_
 try simp only [tR, bR, lR]
 exact owes_one (.inr rfl) hwf rfl (by rw [show flowB k o = false from by simp only [flowB, if_neg h0, if_neg h3, if_pos h7, if_pos h8, if_pos h9, if_pos h10, if_neg h11]] <;> simp [h0, h3, h7, h8, h9, h10, h11]) (by simp (maxDischargeDepth := 20)) (by simp) (by simp)
 refine T_rg ?_
 simp [h0, h3, h7, h8, h9, h10]
 refine callK.of (areaIs _ o.c) ?_
 rintro _ Hz ⟨rfl, hz⟩
 subst Hz
 simp [h0, h3, h7, h8, h9, h10]
 refine hK3 _ _ ?_
 try clear hK3 K3
 refine T_sr fun K15 hK15 => ?_
 simp [h0, h3, h7, h8, h9, h10]
 refine hK15 _ _ ?_
 try clear hK15 K15
 refine T_ret ?_
 try simp only [tR, bR, lR]
 exact owes_one (.inr rfl) hwf rfl (by rw [show flowB k o = false from by simp only [flowB, if_neg h0, if_neg h3, if_pos h7, if_pos h8, if_pos h9, if_neg h10]] <;> simp [h0, h3, h7, h8, h9, h10]) (by simp (maxDischargeDepth := 20)) (by simp) (by simp)
 refine T_rg ?_
 simp [h0, h3, h7, h8, h9]
 refine hK3 _ _ ?_
 try clear hK3 K3
 refine T_sr fun K16 hK16 => ?_
 simp [h0, h3, h7, h8, h9]
 refine hK16 _ _ ?_
 try clear hK16 K16
 refine T_ret ?_
 try simp only [tR, bR, lR]
 exact owes_one (.inr rfl) hwf rfl (by rw [show flowB k o = false from by simp only [flowB, if_neg h0, if_neg h3, if_pos h7, if_pos h8, if_neg h9]] <;> simp [h0, h3, h7, h8, h9]) (by simp (maxDischargeDepth := 20)) (by simp) (by simp)
 refine T_rg ?_
 simp [h0, h3, h7, h8]
 refine hK3 _ _ ?_
 try clear hK3 K3
 refine T_sr fun K17 hK17 => ?_
 simp [h0, h3, h7, h8]
 refine hK17 _ _ ?_
 try clear hK17 K17
 refine T_ret ?_
 try simp only [tR, bR, lR]
 exact owes_one (.inr rfl) hwf rfl (by rw [show flowB k o = false from by simp only [flowB, if_neg h0, if_neg h3, if_pos h7, if_neg h8]] <;> simp [h0, h3, h7, h8]) (by simp (maxDischargeDepth := 20)) (by simp) (by simp)
 refine T_condF (by first | rfl | simp [h0, h3, h7]) ?_
 refine T_sr fun K18 hK18 => ?_
 simp [h0, h3, h7]
 refine hK18 _ _ ?_
 try clear hK18 K18
 by_cases h13 : o.code = 19
 refine T_condT (by first | rfl | simp [h0, h3, h7, h13]) ?_
 refine T_sr fun K19 hK19 => ?_
 simp [h0, h3, h7, h13]
 refine hK19 _ _ ?_
 try clear hK19 K19
 by_cases h14 : 1 ≤ o.b
 by_cases h15 : o.b ≤ 10
 by_cases h16 : areaB o.c = true
 refine T_rg ?_
 simp [h0, h3, h7, h13, h14, h15, h16]
 refine callK.of (areaIs _ o.c) ?_
 rintro _ Hz ⟨rfl, hz⟩
 subst Hz
 simp [h0, h3, h7, h13, h14, h15, h16]
 refine callK.of (numberIs _ o.d 4096) ?_
 rintro _ Hz ⟨rfl, hz⟩
 subst Hz
 simp [h0, h3, h7, h13, h14, h15, h16]
 refine hK3 _ _ ?_
 try clear hK3 K3
 refine T_seqk fun K20 hK20 => ?_
 by_cases h17 : numberB o.d 4096 = true
 refine T_rg ?_
 simp [h0, h3, h7, h13, h14, h15, h16, h17]
 refine callK.of (zeroIs _ ({ a := true, b := false, c := false, d := false, bounds := true, value := true } : DNeed) ({ code := 19, a := o.a, b := o.b, c := o.c, d := o.d, lo := o.lo, hi := o.hi, value := o.value } : DOp)) ?_
 rintro _ Hz ⟨rfl, hz⟩
 subst Hz
 simp [h0, h3, h7, h13, h14, h15, h16, h17]
 refine hK20 _ _ ?_
 try clear hK20 K20
 refine T_ret ?_
 try simp only [tR, bR, lR]
 by_cases h18 : zeroB ({ a := true, b := false, c := false, d := false, bounds := true, value := true } : DNeed) ({ code := 19, a := o.a, b := o.b, c := o.c, d := o.d, lo := o.lo, hi := o.hi, value := o.value } : DOp) = true
 exact owes_one (.inr rfl) hwf rfl (by rw [show flowB k o = true from by simp only [flowB, if_neg h0, if_neg h3, if_neg h7, if_pos h13, if_pos h14, if_pos h15, if_pos h16, if_pos h17, if_pos h18]] <;> simp [h0, h3, h7, h13, h14, h15, h16, h17, h18]) (by simp (maxDischargeDepth := 20)) (by simp) (by simp)
 exact owes_one (.inr rfl) hwf rfl (by rw [show flowB k o = false from by simp only [flowB, if_neg h0, if_neg h3, if_neg h7, if_pos h13, if_pos h14, if_pos h15, if_pos h16, if_pos h17, if_neg h18]] <;> simp [h0, h3, h7, h13, h14, h15, h16, h17, h18]) (by simp (maxDischargeDepth := 20)) (by simp) (by simp)
 refine T_rg ?_
 simp [h0, h3, h7, h13, h14, h15, h16, h17]
 refine hK20 _ _ ?_
 try clear hK20 K20
 refine T_ret ?_
 try simp only [tR, bR, lR]
 exact owes_one (.inr rfl) hwf rfl (by rw [show flowB k o = false from by simp only [flowB, if_neg h0, if_neg h3, if_neg h7, if_pos h13, if_pos h14, if_pos h15, if_pos h16, if_neg h17]] <;> simp [h0, h3, h7, h13, h14, h15, h16, h17]) (by simp (maxDischargeDepth := 20)) (by simp) (by simp)
 refine T_rg ?_
 simp [h0, h3, h7, h13, h14, h15, h16]
 refine callK.of (areaIs _ o.c) ?_
 rintro _ Hz ⟨rfl, hz⟩
 subst Hz
 simp [h0, h3, h7, h13, h14, h15, h16]
 refine hK3 _ _ ?_
 try clear hK3 K3
 refine T_sr fun K21 hK21 => ?_
 simp [h0, h3, h7, h13, h14, h15, h16]
 refine hK21 _ _ ?_
 try clear hK21 K21
 refine T_ret ?_
 try simp only [tR, bR, lR]
 exact owes_one (.inr rfl) hwf rfl (by rw [show flowB k o = false from by simp only [flowB, if_neg h0, if_neg h3, if_neg h7, if_pos h13, if_pos h14, if_pos h15, if_neg h16]] <;> simp [h0, h3, h7, h13, h14, h15, h16]) (by simp (maxDischargeDepth := 20)) (by simp) (by simp)
 refine T_rg ?_
 simp [h0, h3, h7, h13, h14, h15]
 refine hK3 _ _ ?_
 try clear hK3 K3
 refine T_sr fun K22 hK22 => ?_
 simp [h0, h3, h7, h13, h14, h15]
 refine hK22 _ _ ?_
 try clear hK22 K22
 refine T_ret ?_
 try simp only [tR, bR, lR]
 exact owes_one (.inr rfl) hwf rfl (by rw [show flowB k o = false from by simp only [flowB, if_neg h0, if_neg h3, if_neg h7, if_pos h13, if_pos h14, if_neg h15]] <;> simp [h0, h3, h7, h13, h14, h15]) (by simp (maxDischargeDepth := 20)) (by simp) (by simp)
 refine T_rg ?_
 simp [h0, h3, h7, h13, h14]
 refine hK3 _ _ ?_
 try clear hK3 K3
 refine T_sr fun K23 hK23 => ?_
 simp [h0, h3, h7, h13, h14]
 refine hK23 _ _ ?_
 try clear hK23 K23
 refine T_ret ?_
 try simp only [tR, bR, lR]
 exact owes_one (.inr rfl) hwf rfl (by rw [show flowB k o = false from by simp only [flowB, if_neg h0, if_neg h3, if_neg h7, if_pos h13, if_neg h14]] <;> simp [h0, h3, h7, h13, h14]) (by simp (maxDischargeDepth := 20)) (by simp) (by simp)
 refine T_condF (by first | rfl | simp [h0, h3, h7, h13]) ?_
 refine T_sr fun K24 hK24 => ?_
 simp [h0, h3, h7, h13]
 refine hK24 _ _ ?_
 try clear hK24 K24
 by_cases h19 : o.code = 20
 refine T_condT (by first | rfl | simp [h0, h3, h7, h13, h19]) ?_
 refine T_sr fun K25 hK25 => ?_
 simp [h0, h3, h7, h13, h19]
 refine hK25 _ _ ?_
 try clear hK25 K25
 by_cases h20 : 1 ≤ o.a
 refine T_rg ?_
 simp [h0, h3, h7, h13, h19, h20]
 refine hK3 _ _ ?_
 try clear hK3 K3
 refine T_seqk fun K26 hK26 => ?_
 by_cases h21 : o.a ≤ 10
 refine T_rg ?_
 simp [h0, h3, h7, h13, h19, h20, h21]
 refine callK.of (zeroIs _ ({ a := false, b := true, c := true, d := true, bounds := true, value := true } : DNeed) ({ code := 20, a := o.a, b := o.b, c := o.c, d := o.d, lo := o.lo, hi := o.hi, value := o.value } : DOp)) ?_
 rintro _ Hz ⟨rfl, hz⟩
 subst Hz
 simp [h0, h3, h7, h13, h19, h20, h21]
 refine hK26 _ _ ?_
 try clear hK26 K26
 refine T_ret ?_
 try simp only [tR, bR, lR]
 by_cases h22 : zeroB ({ a := false, b := true, c := true, d := true, bounds := true, value := true } : DNeed) ({ code := 20, a := o.a, b := o.b, c := o.c, d := o.d, lo := o.lo, hi := o.hi, value := o.value } : DOp) = true
 exact owes_one (.inr rfl) hwf rfl (by rw [show flowB k o = true from by simp only [flowB, if_neg h0, if_neg h3, if_neg h7, if_neg h13, if_pos h19, if_pos h20, if_pos h21, if_pos h22]] <;> simp [h0, h3, h7, h13, h19, h20, h21, h22]) (by simp (maxDischargeDepth := 20)) (by simp) (by simp)
 exact owes_one (.inr rfl) hwf rfl (by rw [show flowB k o = false from by simp only [flowB, if_neg h0, if_neg h3, if_neg h7, if_neg h13, if_pos h19, if_pos h20, if_pos h21, if_neg h22]] <;> simp [h0, h3, h7, h13, h19, h20, h21, h22]) (by simp (maxDischargeDepth := 20)) (by simp) (by simp)
 refine T_rg ?_
 simp [h0, h3, h7, h13, h19, h20, h21]
 refine hK26 _ _ ?_
 try clear hK26 K26
 refine T_ret ?_
 try simp only [tR, bR, lR]
 exact owes_one (.inr rfl) hwf rfl (by rw [show flowB k o = false from by simp only [flowB, if_neg h0, if_neg h3, if_neg h7, if_neg h13, if_pos h19, if_pos h20, if_neg h21]] <;> simp [h0, h3, h7, h13, h19, h20, h21]) (by simp (maxDischargeDepth := 20)) (by simp) (by simp)
 refine T_rg ?_
 simp [h0, h3, h7, h13, h19, h20]
 refine hK3 _ _ ?_
 try clear hK3 K3
 refine T_sr fun K27 hK27 => ?_
 simp [h0, h3, h7, h13, h19, h20]
 refine hK27 _ _ ?_
 try clear hK27 K27
 refine T_ret ?_
 try simp only [tR, bR, lR]
 exact owes_one (.inr rfl) hwf rfl (by rw [show flowB k o = false from by simp only [flowB, if_neg h0, if_neg h3, if_neg h7, if_neg h13, if_pos h19, if_neg h20]] <;> simp [h0, h3, h7, h13, h19, h20]) (by simp (maxDischargeDepth := 20)) (by simp) (by simp)
 refine T_condF (by first | rfl | simp [h0, h3, h7, h13, h19]) ?_
 refine T_sr fun K28 hK28 => ?_
 simp [h0, h3, h7, h13, h19]
 refine hK28 _ _ ?_
 try clear hK28 K28
 by_cases h23 : o.code = 21
 refine T_condT (by first | rfl | simp [h0, h3, h7, h13, h19, h23]) ?_
 refine T_rg ?_
 simp [h0, h3, h7, h13, h19, h23]
 refine hK3 _ _ ?_
 try clear hK3 K3
 refine T_sr fun K29 hK29 => ?_
 simp [h0, h3, h7, h13, h19, h23]
 refine callK.of (zeroIs _ ({ a := true, b := true, c := true, d := true, bounds := true, value := true } : DNeed) ({ code := 21, a := o.a, b := o.b, c := o.c, d := o.d, lo := o.lo, hi := o.hi, value := o.value } : DOp)) ?_
 rintro _ Hz ⟨rfl, hz⟩
 subst Hz
 simp [h0, h3, h7, h13, h19, h23]
 refine hK29 _ _ ?_
 try clear hK29 K29
 refine T_ret ?_
 try simp only [tR, bR, lR]
 by_cases h24 : zeroB ({ a := true, b := true, c := true, d := true, bounds := true, value := true } : DNeed) ({ code := 21, a := o.a, b := o.b, c := o.c, d := o.d, lo := o.lo, hi := o.hi, value := o.value } : DOp) = true
 exact owes_one (.inr rfl) hwf rfl (by rw [show flowB k o = true from by simp only [flowB, if_neg h0, if_neg h3, if_neg h7, if_neg h13, if_neg h19, if_pos h23, if_pos h24]] <;> simp [h0, h3, h7, h13, h19, h23, h24]) (by simp (maxDischargeDepth := 20)) (by simp) (by simp)
 exact owes_one (.inr rfl) hwf rfl (by rw [show flowB k o = false from by simp only [flowB, if_neg h0, if_neg h3, if_neg h7, if_neg h13, if_neg h19, if_pos h23, if_neg h24]] <;> simp [h0, h3, h7, h13, h19, h23, h24]) (by simp (maxDischargeDepth := 20)) (by simp) (by simp)
 refine T_condF (by first | rfl | simp [h0, h3, h7, h13, h19, h23]) ?_
 refine T_seqk fun K30 hK30 => ?_
 refine T_sr fun K31 hK31 => ?_
 simp [h0, h3, h7, h13, h19, h23]
 refine hK31 _ _ ?_
 try clear hK31 K31
 by_cases h25 : o.code = 22
 refine T_condT (by first | rfl | simp [h0, h3, h7, h13, h19, h23, h25]) ?_
 refine T_skip ?_
 try simp only [tN, bN, lN]
 refine hK30 _ _ ?_
 try clear hK30 K30
 refine T_condT (by first | rfl | simp [h0, h3, h7, h13, h19, h23, h25]) ?_
 refine T_sr fun K32 hK32 => ?_
 simp [h0, h3, h7, h13, h19, h23, h25]
 refine hK32 _ _ ?_
 try clear hK32 K32
 by_cases h26 : regB k o.a = true
 refine T_rg ?_
 simp [h0, h3, h7, h13, h19, h23, h25, h26]
 refine callK.of (regIs _ c k o.a) ?_
 rintro _ Hz ⟨rfl, hz⟩
 subst Hz
 simp [h0, h3, h7, h13, h19, h23, h25, h26]
 refine callK.of (slotIs _ c k o.b) ?_
 rintro _ Hz ⟨rfl, hz⟩
 subst Hz
 simp [h0, h3, h7, h13, h19, h23, h25, h26]
 refine hK3 _ _ ?_
 try clear hK3 K3
 refine T_seqk fun K33 hK33 => ?_
 by_cases h27 : slotB k o.b = true
 refine T_rg ?_
 simp [h0, h3, h7, h13, h19, h23, h25, h26, h27]
 refine callK.of (zeroIs _ ({ a := false, b := false, c := true, d := true, bounds := true, value := true } : DNeed) ({ code := 22, a := o.a, b := o.b, c := o.c, d := o.d, lo := o.lo, hi := o.hi, value := o.value } : DOp)) ?_
 rintro _ Hz ⟨rfl, hz⟩
 subst Hz
 simp [h0, h3, h7, h13, h19, h23, h25, h26, h27]
 refine hK33 _ _ ?_
 try clear hK33 K33
 refine T_ret ?_
 try simp only [tR, bR, lR]
 by_cases h28 : zeroB ({ a := false, b := false, c := true, d := true, bounds := true, value := true } : DNeed) ({ code := 22, a := o.a, b := o.b, c := o.c, d := o.d, lo := o.lo, hi := o.hi, value := o.value } : DOp) = true
 exact owes_one (.inr rfl) hwf rfl (by rw [show flowB k o = true from by simp only [flowB, if_neg h0, if_neg h3, if_neg h7, if_neg h13, if_neg h19, if_neg h23, if_pos h25, if_pos h26, if_pos h27, if_pos h28]] <;> simp [h0, h3, h7, h13, h19, h23, h25, h26, h27, h28]) (by simp (maxDischargeDepth := 20)) (by simp) (by simp)
 exact owes_one (.inr rfl) hwf rfl (by rw [show flowB k o = false from by simp only [flowB, if_neg h0, if_neg h3, if_neg h7, if_neg h13, if_neg h19, if_neg h23, if_pos h25, if_pos h26, if_pos h27, if_neg h28]] <;> simp [h0, h3, h7, h13, h19, h23, h25, h26, h27, h28]) (by simp (maxDischargeDepth := 20)) (by simp) (by simp)
 refine T_rg ?_
 simp [h0, h3, h7, h13, h19, h23, h25, h26, h27]
 refine hK33 _ _ ?_
 try clear hK33 K33
 refine T_ret ?_
 try simp only [tR, bR, lR]
 exact owes_one (.inr rfl) hwf rfl (by rw [show flowB k o = false from by simp only [flowB, if_neg h0, if_neg h3, if_neg h7, if_neg h13, if_neg h19, if_neg h23, if_pos h25, if_pos h26, if_neg h27]] <;> simp [h0, h3, h7, h13, h19, h23, h25, h26, h27]) (by simp (maxDischargeDepth := 20)) (by simp) (by simp)
 refine T_rg ?_
 simp [h0, h3, h7, h13, h19, h23, h25, h26]
 refine callK.of (regIs _ c k o.a) ?_
 rintro _ Hz ⟨rfl, hz⟩
 subst Hz
 simp [h0, h3, h7, h13, h19, h23, h25, h26]
 refine hK3 _ _ ?_
 try clear hK3 K3
 refine T_sr fun K34 hK34 => ?_
 simp [h0, h3, h7, h13, h19, h23, h25, h26]
 refine hK34 _ _ ?_
 try clear hK34 K34
 refine T_ret ?_
 try simp only [tR, bR, lR]
 exact owes_one (.inr rfl) hwf rfl (by rw [show flowB k o = false from by simp only [flowB, if_neg h0, if_neg h3, if_neg h7, if_neg h13, if_neg h19, if_neg h23, if_pos h25, if_neg h26]] <;> simp [h0, h3, h7, h13, h19, h23, h25, h26]) (by simp (maxDischargeDepth := 20)) (by simp) (by simp)
 refine T_condF (by first | rfl | simp [h0, h3, h7, h13, h19, h23, h25]) ?_
 refine T_rg ?_
 simp [h0, h3, h7, h13, h19, h23, h25]
 refine hK30 _ _ ?_
 try clear hK30 K30
 by_cases h29 : o.code = 23
 refine T_condT (by first | rfl | simp [h0, h3, h7, h13, h19, h23, h25, h29]) ?_
 refine T_sr fun K35 hK35 => ?_
 simp [h0, h3, h7, h13, h19, h23, h25, h29]
 refine hK35 _ _ ?_
 try clear hK35 K35
 by_cases h30 : regB k o.a = true
 refine T_rg ?_
 simp [h0, h3, h7, h13, h19, h23, h25, h29, h30]
 refine callK.of (regIs _ c k o.a) ?_
 rintro _ Hz ⟨rfl, hz⟩
 subst Hz
 simp [h0, h3, h7, h13, h19, h23, h25, h29, h30]
 refine callK.of (slotIs _ c k o.b) ?_
 rintro _ Hz ⟨rfl, hz⟩
 subst Hz
 simp [h0, h3, h7, h13, h19, h23, h25, h29, h30]
 refine hK3 _ _ ?_
 try clear hK3 K3
 refine T_seqk fun K36 hK36 => ?_
 by_cases h31 : slotB k o.b = true
 refine T_rg ?_
 simp [h0, h3, h7, h13, h19, h23, h25, h29, h30, h31]
 refine callK.of (zeroIs _ ({ a := false, b := false, c := true, d := true, bounds := true, value := true } : DNeed) ({ code := 23, a := o.a, b := o.b, c := o.c, d := o.d, lo := o.lo, hi := o.hi, value := o.value } : DOp)) ?_
 rintro _ Hz ⟨rfl, hz⟩
 subst Hz
 simp [h0, h3, h7, h13, h19, h23, h25, h29, h30, h31]
 refine hK36 _ _ ?_
 try clear hK36 K36
 refine T_ret ?_
 try simp only [tR, bR, lR]
 by_cases h32 : zeroB ({ a := false, b := false, c := true, d := true, bounds := true, value := true } : DNeed) ({ code := 23, a := o.a, b := o.b, c := o.c, d := o.d, lo := o.lo, hi := o.hi, value := o.value } : DOp) = true
 exact owes_one (.inr rfl) hwf rfl (by rw [show flowB k o = true from by simp only [flowB, if_neg h0, if_neg h3, if_neg h7, if_neg h13, if_neg h19, if_neg h23, if_neg h25, if_pos h29, if_pos h30, if_pos h31, if_pos h32]] <;> simp [h0, h3, h7, h13, h19, h23, h25, h29, h30, h31, h32]) (by simp (maxDischargeDepth := 20)) (by simp) (by simp)
 exact owes_one (.inr rfl) hwf rfl (by rw [show flowB k o = false from by simp only [flowB, if_neg h0, if_neg h3, if_neg h7, if_neg h13, if_neg h19, if_neg h23, if_neg h25, if_pos h29, if_pos h30, if_pos h31, if_neg h32]] <;> simp [h0, h3, h7, h13, h19, h23, h25, h29, h30, h31, h32]) (by simp (maxDischargeDepth := 20)) (by simp) (by simp)
 refine T_rg ?_
 simp [h0, h3, h7, h13, h19, h23, h25, h29, h30, h31]
 refine hK36 _ _ ?_
 try clear hK36 K36
 refine T_ret ?_
 try simp only [tR, bR, lR]
 exact owes_one (.inr rfl) hwf rfl (by rw [show flowB k o = false from by simp only [flowB, if_neg h0, if_neg h3, if_neg h7, if_neg h13, if_neg h19, if_neg h23, if_neg h25, if_pos h29, if_pos h30, if_neg h31]] <;> simp [h0, h3, h7, h13, h19, h23, h25, h29, h30, h31]) (by simp (maxDischargeDepth := 20)) (by simp) (by simp)
 refine T_rg ?_
 simp [h0, h3, h7, h13, h19, h23, h25, h29, h30]
 refine callK.of (regIs _ c k o.a) ?_
 rintro _ Hz ⟨rfl, hz⟩
 subst Hz
 simp [h0, h3, h7, h13, h19, h23, h25, h29, h30]
 refine hK3 _ _ ?_
 try clear hK3 K3
 refine T_sr fun K37 hK37 => ?_
 simp [h0, h3, h7, h13, h19, h23, h25, h29, h30]
 refine hK37 _ _ ?_
 try clear hK37 K37
 refine T_ret ?_
 try simp only [tR, bR, lR]
 exact owes_one (.inr rfl) hwf rfl (by rw [show flowB k o = false from by simp only [flowB, if_neg h0, if_neg h3, if_neg h7, if_neg h13, if_neg h19, if_neg h23, if_neg h25, if_pos h29, if_neg h30]] <;> simp [h0, h3, h7, h13, h19, h23, h25, h29, h30]) (by simp (maxDischargeDepth := 20)) (by simp) (by simp)
 refine T_condF (by first | rfl | simp [h0, h3, h7, h13, h19, h23, h25, h29]) ?_
 refine T_skip ?_
 try simp only [tN, bN, lN]
 refine hK3 _ _ ?_
 try clear hK3 K3
 refine T_sr fun K38 hK38 => ?_
 simp [h0, h3, h7, h13, h19, h23, h25, h29]
 refine hK38 _ _ ?_
 try clear hK38 K38
 refine T_ret ?_
 try simp only [tR, bR, lR]
 exact owes_one (.inr rfl) hwf rfl (by rw [show flowB k o = false from by simp only [flowB, if_neg h0, if_neg h3, if_neg h7, if_neg h13, if_neg h19, if_neg h23, if_neg h25, if_neg h29]] <;> simp [h0, h3, h7, h13, h19, h23, h25, h29]) (by simp (maxDischargeDepth := 20)) (by simp) (by simp)
def mayO (k : DLook) (o : DOp) : Bool := if o.code = 1 then (if regB k o.a = true then (if mayV o.value = true then (if zeroB ({ a := false, b := true, c := true, d := true, bounds := true, value := false } : DNeed) ({ code := 1, a := o.a, b := o.b, c := o.c, d := o.d, lo := o.lo, hi := o.hi, value := o.value } : DOp) = true then true else false) else if eqv o.value.kind o.value.bits o.value.text 20 0 ⟨#[]⟩ = true then (if zeroB ({ a := false, b := true, c := true, d := true, bounds := true, value := false } : DNeed) ({ code := 1, a := o.a, b := o.b, c := o.c, d := o.d, lo := o.lo, hi := o.hi, value := o.value } : DOp) = true then true else false) else false) else false) else if o.code = 2 then (if regB k o.a = true then (if regB k o.b = true then (if zeroB ({ a := false, b := false, c := true, d := true, bounds := true, value := true } : DNeed) ({ code := 2, a := o.a, b := o.b, c := o.c, d := o.d, lo := o.lo, hi := o.hi, value := o.value } : DOp) = true then true else false) else false) else false) else if o.code = 3 then (if regB k o.a = true then (if areaB o.b = true then (if numberB o.c 4096 = true then (if zeroB ({ a := false, b := false, c := false, d := true, bounds := true, value := true } : DNeed) ({ code := 3, a := o.a, b := o.b, c := o.c, d := o.d, lo := o.lo, hi := o.hi, value := o.value } : DOp) = true then true else false) else false) else false) else false) else if o.code = 4 then (if regB k o.a = true then (if areaB o.b = true then (if numberB o.c 4096 = true then (if zeroB ({ a := false, b := false, c := false, d := true, bounds := true, value := true } : DNeed) ({ code := 4, a := o.a, b := o.b, c := o.c, d := o.d, lo := o.lo, hi := o.hi, value := o.value } : DOp) = true then true else false) else false) else false) else false) else if o.code = 7 then (if regB k o.a = true then (if areaB o.b = true then (if numberB o.c 4096 = true then (if zeroB ({ a := false, b := false, c := false, d := true, bounds := true, value := true } : DNeed) ({ code := 7, a := o.a, b := o.b, c := o.c, d := o.d, lo := o.lo, hi := o.hi, value := o.value } : DOp) = true then true else false) else false) else false) else false) else if o.code = 5 then (if regB k o.a = true then (if areaB o.b = true then (if numberB o.c 4096 = true then (if regB k o.d = true then (if nearB o.lo o.hi = true then (if zeroB ({ a := false, b := false, c := false, d := false, bounds := false, value := true } : DNeed) ({ code := 5, a := o.a, b := o.b, c := o.c, d := o.d, lo := o.lo, hi := o.hi, value := o.value } : DOp) = true then true else false) else false) else false) else false) else false) else false) else if o.code = 6 then (if regB k o.a = true then (if areaB o.b = true then (if numberB o.c 4096 = true then (if regB k o.d = true then (if nearB o.lo o.hi = true then (if zeroB ({ a := false, b := false, c := false, d := false, bounds := false, value := true } : DNeed) ({ code := 6, a := o.a, b := o.b, c := o.c, d := o.d, lo := o.lo, hi := o.hi, value := o.value } : DOp) = true then true else false) else false) else false) else false) else false) else false) else if o.code = 8 then (if regB k o.a = true then (if areaB o.b = true then (if numberB o.c 4096 = true then (if regB k o.d = true then (if nearB o.lo o.hi = true then (if zeroB ({ a := false, b := false, c := false, d := false, bounds := false, value := true } : DNeed) ({ code := 8, a := o.a, b := o.b, c := o.c, d := o.d, lo := o.lo, hi := o.hi, value := o.value } : DOp) = true then true else false) else false) else false) else false) else false) else false) else if o.code = 9 then (if regB k o.a = true then (if regB k o.b = true then (if regB k o.c = true then (if 1 ≤ o.d then (if o.d ≤ 14 then (if zeroB ({ a := false, b := false, c := false, d := false, bounds := true, value := true } : DNeed) ({ code := 9, a := o.a, b := o.b, c := o.c, d := o.d, lo := o.lo, hi := o.hi, value := o.value } : DOp) = true then true else false) else false) else false) else false) else false) else false) else if o.code = 10 then (if regB k o.a = true then (if regB k o.b = true then (if o.d = 15 then (if zeroB ({ a := false, b := false, c := true, d := false, bounds := true, value := true } : DNeed) ({ code := 10, a := o.a, b := o.b, c := o.c, d := 15, lo := o.lo, hi := o.hi, value := o.value } : DOp) = true then true else false) else if o.d = 16 then (if zeroB ({ a := false, b := false, c := true, d := false, bounds := true, value := true } : DNeed) ({ code := 10, a := o.a, b := o.b, c := o.c, d := 16, lo := o.lo, hi := o.hi, value := o.value } : DOp) = true then true else false) else false) else false) else false) else if o.code = 11 then (if regB k o.a = true then (if regB k o.b = true then (if 1 ≤ o.d then (if o.d ≤ 19 then (if zeroB ({ a := false, b := false, c := true, d := false, bounds := true, value := true } : DNeed) ({ code := 11, a := o.a, b := o.b, c := o.c, d := o.d, lo := o.lo, hi := o.hi, value := o.value } : DOp) = true then true else false) else false) else false) else false) else false) else if o.code = 12 then (if regB k o.a = true then (if zeroB ({ a := false, b := true, c := true, d := true, bounds := true, value := true } : DNeed) ({ code := 12, a := o.a, b := o.b, c := o.c, d := o.d, lo := o.lo, hi := o.hi, value := o.value } : DOp) = true then true else false) else false) else if o.code = 13 then (if regB k o.a = true then (if numberB o.c 16 = true then (if numberB o.d 255 = true then (if zeroB ({ a := false, b := true, c := false, d := false, bounds := true, value := true } : DNeed) ({ code := 13, a := o.a, b := o.b, c := o.c, d := o.d, lo := o.lo, hi := o.hi, value := o.value } : DOp) = true then true else false) else false) else false) else false) else if o.code = 14 then (if regB k o.a = true then (if o.lo ≤ o.hi then (if zeroB ({ a := false, b := true, c := true, d := true, bounds := false, value := true } : DNeed) ({ code := 14, a := o.a, b := o.b, c := o.c, d := o.d, lo := o.lo, hi := o.hi, value := o.value } : DOp) = true then true else false) else false) else false) else if o.code = 15 then (if regB k o.a = true then (if o.lo = 0 then (if numberB o.hi 254 = true then (if zeroB ({ a := false, b := true, c := true, d := true, bounds := false, value := true } : DNeed) ({ code := 15, a := o.a, b := o.b, c := o.c, d := o.d, lo := 0, hi := o.hi, value := o.value } : DOp) = true then true else false) else false) else false) else false) else if flowB k o = true then true else false
set_option maxRecDepth 100000 in
set_option maxHeartbeats 4000000 in
theorem mayOIs (H : AS)  (c : Nat) (k : DLook) (o : DOp) : ACalls Tryz.prog 84 [.agg (k.row c), .agg (o.row)] H fun q H' => q = pb (mayO k o) ∧ H' = H := by
 refine ACalls_intro Tryz.func84 rfl (by kernel_rfl) (by simp) fun hwf hbel => ?_
 refine T_sr fun K0 hK0 => ?_
 simp
 refine hK0 _ _ ?_
 try clear hK0 K0
 refine T_sr fun K1 hK1 => ?_
 simp
 refine hK1 _ _ ?_
 try clear hK1 K1
 refine T_sr fun K2 hK2 => ?_
 simp
 refine hK2 _ _ ?_
 try clear hK2 K2
 refine T_seqk fun K3 hK3 => ?_
 refine T_sr fun K4 hK4 => ?_
 simp
 refine hK4 _ _ ?_
 try clear hK4 K4
 refine T_block ?_
 refine T_sr fun K5 hK5 => ?_
 simp
 refine hK5 _ _ ?_
 try clear hK5 K5
 by_cases h0 : o.code = 1
 refine T_condT (by first | rfl | simp [h0]) ?_
 refine T_sr fun K6 hK6 => ?_
 simp [h0]
 refine hK6 _ _ ?_
 try clear hK6 K6
 by_cases h1 : regB k o.a = true
 by_cases h2 : mayV o.value = true
 refine T_rg ?_
 simp [h0, h1, h2]
 refine callK.of (regIs _ c k o.a) ?_
 rintro _ Hz ⟨rfl, hz⟩
 subst Hz
 simp [h0, h1, h2]
 refine callK.of (mayVIs _ o.value) ?_
 rintro _ Hz ⟨rfl, hz⟩
 subst Hz
 simp [h0, h1, h2]
 refine hK3 _ _ ?_
 try clear hK3 K3
 refine T_sr fun K7 hK7 => ?_
 simp [h0, h1, h2]
 refine callK.of (zeroIs _ ({ a := false, b := true, c := true, d := true, bounds := true, value := false } : DNeed) ({ code := 1, a := o.a, b := o.b, c := o.c, d := o.d, lo := o.lo, hi := o.hi, value := o.value } : DOp)) ?_
 rintro _ Hz ⟨rfl, hz⟩
 subst Hz
 simp [h0, h1, h2]
 refine hK7 _ _ ?_
 try clear hK7 K7
 refine T_ret ?_
 try simp only [tR, bR, lR]
 by_cases h3 : zeroB ({ a := false, b := true, c := true, d := true, bounds := true, value := false } : DNeed) ({ code := 1, a := o.a, b := o.b, c := o.c, d := o.d, lo := o.lo, hi := o.hi, value := o.value } : DOp) = true
 exact owes_one (.inr rfl) hwf rfl (by rw [show mayO k o = true from by simp only [mayO, if_pos h0, if_pos h1, if_pos h2, if_pos h3]] <;> simp [h0, h1, h2, h3]) (by simp (maxDischargeDepth := 20)) (by simp) (by simp)
 exact owes_one (.inr rfl) hwf rfl (by rw [show mayO k o = false from by simp only [mayO, if_pos h0, if_pos h1, if_pos h2, if_neg h3]] <;> simp [h0, h1, h2, h3]) (by simp (maxDischargeDepth := 20)) (by simp) (by simp)
 refine T_rg ?_
 simp [h0, h1, h2]
 refine callK.of (regIs _ c k o.a) ?_
 rintro _ Hz ⟨rfl, hz⟩
 subst Hz
 simp [h0, h1, h2]
 refine callK.of (mayVIs _ o.value) ?_
 rintro _ Hz ⟨rfl, hz⟩
 subst Hz
 simp [h0, h1, h2]
 refine hK3 _ _ ?_
 try clear hK3 K3
 refine T_seqk fun K8 hK8 => ?_
 by_cases h4 : eqv o.value.kind o.value.bits o.value.text 20 0 ⟨#[]⟩ = true
 refine T_rg ?_
 simp [h0, h1, h2, h4]
 refine callK.of (zeroIs _ ({ a := false, b := true, c := true, d := true, bounds := true, value := false } : DNeed) ({ code := 1, a := o.a, b := o.b, c := o.c, d := o.d, lo := o.lo, hi := o.hi, value := o.value } : DOp)) ?_
 rintro _ Hz ⟨rfl, hz⟩
 subst Hz
 simp [h0, h1, h2, h4]
 refine hK8 _ _ ?_
 try clear hK8 K8
 refine T_ret ?_
 try simp only [tR, bR, lR]
 by_cases h5 : zeroB ({ a := false, b := true, c := true, d := true, bounds := true, value := false } : DNeed) ({ code := 1, a := o.a, b := o.b, c := o.c, d := o.d, lo := o.lo, hi := o.hi, value := o.value } : DOp) = true
 exact owes_one (.inr rfl) hwf rfl (by rw [show mayO k o = true from by simp only [mayO, if_pos h0, if_pos h1, if_neg h2, if_pos h4, if_pos h5]] <;> simp [h0, h1, h2, h4, h5]) (by simp (maxDischargeDepth := 20)) (by simp) (by simp)
 exact owes_one (.inr rfl) hwf rfl (by rw [show mayO k o = false from by simp only [mayO, if_pos h0, if_pos h1, if_neg h2, if_pos h4, if_neg h5]] <;> simp [h0, h1, h2, h4, h5]) (by simp (maxDischargeDepth := 20)) (by simp) (by simp)
 refine T_rg ?_
 simp [h0, h1, h2, h4]
 refine hK8 _ _ ?_
 try clear hK8 K8
 refine T_ret ?_
 try simp only [tR, bR, lR]
 exact owes_one (.inr rfl) hwf rfl (by rw [show mayO k o = false from by simp only [mayO, if_pos h0, if_pos h1, if_neg h2, if_neg h4]] <;> simp [h0, h1, h2, h4]) (by simp (maxDischargeDepth := 20)) (by simp) (by simp)
 refine T_rg ?_
 simp [h0, h1]
 refine callK.of (regIs _ c k o.a) ?_
 rintro _ Hz ⟨rfl, hz⟩
 subst Hz
 simp [h0, h1]
 refine hK3 _ _ ?_
 try clear hK3 K3
 refine T_sr fun K9 hK9 => ?_
 simp [h0, h1]
 refine hK9 _ _ ?_
 try clear hK9 K9
 refine T_ret ?_
 try simp only [tR, bR, lR]
 exact owes_one (.inr rfl) hwf rfl (by rw [show mayO k o = false from by simp only [mayO, if_pos h0, if_neg h1]] <;> simp [h0, h1]) (by simp (maxDischargeDepth := 20)) (by simp) (by simp)
 refine T_condF (by first | rfl | simp [h0]) ?_
 refine T_sr fun K10 hK10 => ?_
 simp [h0]
 refine hK10 _ _ ?_
 try clear hK10 K10
 by_cases h6 : o.code = 2
 refine T_condT (by first | rfl | simp [h0, h6]) ?_
 refine T_sr fun K11 hK11 => ?_
 simp [h0, h6]
 refine hK11 _ _ ?_
 try clear hK11 K11
 by_cases h7 : regB k o.a = true
 refine T_rg ?_
 simp [h0, h6, h7]
 refine callK.of (regIs _ c k o.a) ?_
 rintro _ Hz ⟨rfl, hz⟩
 subst Hz
 simp [h0, h6, h7]
 refine callK.of (regIs _ c k o.b) ?_
 rintro _ Hz ⟨rfl, hz⟩
 subst Hz
 simp [h0, h6, h7]
 refine hK3 _ _ ?_
 try clear hK3 K3
 refine T_seqk fun K12 hK12 => ?_
 by_cases h8 : regB k o.b = true
 refine T_rg ?_
 simp [h0, h6, h7, h8]
 refine callK.of (zeroIs _ ({ a := false, b := false, c := true, d := true, bounds := true, value := true } : DNeed) ({ code := 2, a := o.a, b := o.b, c := o.c, d := o.d, lo := o.lo, hi := o.hi, value := o.value } : DOp)) ?_
 rintro _ Hz ⟨rfl, hz⟩
 subst Hz
 simp [h0, h6, h7, h8]
 refine hK12 _ _ ?_
 try clear hK12 K12
 refine T_ret ?_
 try simp only [tR, bR, lR]
 by_cases h9 : zeroB ({ a := false, b := false, c := true, d := true, bounds := true, value := true } : DNeed) ({ code := 2, a := o.a, b := o.b, c := o.c, d := o.d, lo := o.lo, hi := o.hi, value := o.value } : DOp) = true
 exact owes_one (.inr rfl) hwf rfl (by rw [show mayO k o = true from by simp only [mayO, if_neg h0, if_pos h6, if_pos h7, if_pos h8, if_pos h9]] <;> simp [h0, h6, h7, h8, h9]) (by simp (maxDischargeDepth := 20)) (by simp) (by simp)
 exact owes_one (.inr rfl) hwf rfl (by rw [show mayO k o = false from by simp only [mayO, if_neg h0, if_pos h6, if_pos h7, if_pos h8, if_neg h9]] <;> simp [h0, h6, h7, h8, h9]) (by simp (maxDischargeDepth := 20)) (by simp) (by simp)
 refine T_rg ?_
 simp [h0, h6, h7, h8]
 refine hK12 _ _ ?_
 try clear hK12 K12
 refine T_ret ?_
 try simp only [tR, bR, lR]
 exact owes_one (.inr rfl) hwf rfl (by rw [show mayO k o = false from by simp only [mayO, if_neg h0, if_pos h6, if_pos h7, if_neg h8]] <;> simp [h0, h6, h7, h8]) (by simp (maxDischargeDepth := 20)) (by simp) (by simp)
 refine T_rg ?_
 simp [h0, h6, h7]
 refine callK.of (regIs _ c k o.a) ?_
 rintro _ Hz ⟨rfl, hz⟩
 subst Hz
 simp [h0, h6, h7]
 refine hK3 _ _ ?_
 try clear hK3 K3
 refine T_sr fun K13 hK13 => ?_
 simp [h0, h6, h7]
 refine hK13 _ _ ?_
 try clear hK13 K13
 refine T_ret ?_
 try simp only [tR, bR, lR]
 exact owes_one (.inr rfl) hwf rfl (by rw [show mayO k o = false from by simp only [mayO, if_neg h0, if_pos h6, if_neg h7]] <;> simp [h0, h6, h7]) (by simp (maxDischargeDepth := 20)) (by simp) (by simp)
 refine T_condF (by first | rfl | simp [h0, h6]) ?_
 refine T_seqk fun K14 hK14 => ?_
 refine T_sr fun K15 hK15 => ?_
 simp [h0, h6]
 refine hK15 _ _ ?_
 try clear hK15 K15
 by_cases h10 : o.code = 3
 refine T_condT (by first | rfl | simp [h0, h6, h10]) ?_
 refine T_skip ?_
 try simp only [tN, bN, lN]
 refine hK14 _ _ ?_
 try clear hK14 K14
 refine T_condT (by first | rfl | simp [h0, h6, h10]) ?_
 refine T_sr fun K16 hK16 => ?_
 simp [h0, h6, h10]
 refine hK16 _ _ ?_
 try clear hK16 K16
 by_cases h11 : regB k o.a = true
 by_cases h12 : areaB o.b = true
 refine T_rg ?_
 simp [h0, h6, h10, h11, h12]
 refine callK.of (regIs _ c k o.a) ?_
 rintro _ Hz ⟨rfl, hz⟩
 subst Hz
 simp [h0, h6, h10, h11, h12]
 refine callK.of (areaIs _ o.b) ?_
 rintro _ Hz ⟨rfl, hz⟩
 subst Hz
 simp [h0, h6, h10, h11, h12]
 refine callK.of (numberIs _ o.c 4096) ?_
 rintro _ Hz ⟨rfl, hz⟩
 subst Hz
 simp [h0, h6, h10, h11, h12]
 refine hK3 _ _ ?_
 try clear hK3 K3
 refine T_seqk fun K17 hK17 => ?_
 by_cases h13 : numberB o.c 4096 = true
 refine T_rg ?_
 simp [h0, h6, h10, h11, h12, h13]
 refine callK.of (zeroIs _ ({ a := false, b := false, c := false, d := true, bounds := true, value := true } : DNeed) ({ code := 3, a := o.a, b := o.b, c := o.c, d := o.d, lo := o.lo, hi := o.hi, value := o.value } : DOp)) ?_
 rintro _ Hz ⟨rfl, hz⟩
 subst Hz
 simp [h0, h6, h10, h11, h12, h13]
 refine hK17 _ _ ?_
 try clear hK17 K17
 refine T_ret ?_
 try simp only [tR, bR, lR]
 by_cases h14 : zeroB ({ a := false, b := false, c := false, d := true, bounds := true, value := true } : DNeed) ({ code := 3, a := o.a, b := o.b, c := o.c, d := o.d, lo := o.lo, hi := o.hi, value := o.value } : DOp) = true
 exact owes_one (.inr rfl) hwf rfl (by rw [show mayO k o = true from by simp only [mayO, if_neg h0, if_neg h6, if_pos h10, if_pos h11, if_pos h12, if_pos h13, if_pos h14]] <;> simp [h0, h6, h10, h11, h12, h13, h14]) (by simp (maxDischargeDepth := 20)) (by simp) (by simp)
 exact owes_one (.inr rfl) hwf rfl (by rw [show mayO k o = false from by simp only [mayO, if_neg h0, if_neg h6, if_pos h10, if_pos h11, if_pos h12, if_pos h13, if_neg h14]] <;> simp [h0, h6, h10, h11, h12, h13, h14]) (by simp (maxDischargeDepth := 20)) (by simp) (by simp)
 refine T_rg ?_
 simp [h0, h6, h10, h11, h12, h13]
 refine hK17 _ _ ?_
 try clear hK17 K17
 refine T_ret ?_
 try simp only [tR, bR, lR]
 exact owes_one (.inr rfl) hwf rfl (by rw [show mayO k o = false from by simp only [mayO, if_neg h0, if_neg h6, if_pos h10, if_pos h11, if_pos h12, if_neg h13]] <;> simp [h0, h6, h10, h11, h12, h13]) (by simp (maxDischargeDepth := 20)) (by simp) (by simp)
 refine T_rg ?_
 simp [h0, h6, h10, h11, h12]
 refine callK.of (regIs _ c k o.a) ?_
 rintro _ Hz ⟨rfl, hz⟩
 subst Hz
 simp [h0, h6, h10, h11, h12]
 refine callK.of (areaIs _ o.b) ?_
 rintro _ Hz ⟨rfl, hz⟩
 subst Hz
 simp [h0, h6, h10, h11, h12]
 refine hK3 _ _ ?_
 try clear hK3 K3
 refine T_sr fun K18 hK18 => ?_
 simp [h0, h6, h10, h11, h12]
 refine hK18 _ _ ?_
 try clear hK18 K18
 refine T_ret ?_
 try simp only [tR, bR, lR]
 exact owes_one (.inr rfl) hwf rfl (by rw [show mayO k o = false from by simp only [mayO, if_neg h0, if_neg h6, if_pos h10, if_pos h11, if_neg h12]] <;> simp [h0, h6, h10, h11, h12]) (by simp (maxDischargeDepth := 20)) (by simp) (by simp)
 refine T_rg ?_
 simp [h0, h6, h10, h11]
 refine callK.of (regIs _ c k o.a) ?_
 rintro _ Hz ⟨rfl, hz⟩
 subst Hz
 simp [h0, h6, h10, h11]
 refine hK3 _ _ ?_
 try clear hK3 K3
 refine T_sr fun K19 hK19 => ?_
 simp [h0, h6, h10, h11]
 refine hK19 _ _ ?_
 try clear hK19 K19
 refine T_ret ?_
 try simp only [tR, bR, lR]
 exact owes_one (.inr rfl) hwf rfl (by rw [show mayO k o = false from by simp only [mayO, if_neg h0, if_neg h6, if_pos h10, if_neg h11]] <;> simp [h0, h6, h10, h11]) (by simp (maxDischargeDepth := 20)) (by simp) (by simp)
 refine T_condF (by first | rfl | simp [h0, h6, h10]) ?_
 refine T_sr fun K20 hK20 => ?_
 simp [h0, h6, h10]
 refine hK20 _ _ ?_
 try clear hK20 K20
 by_cases h15 : o.code = 4
 refine T_condT (by first | rfl | simp [h0, h6, h10, h15]) ?_
 refine T_skip ?_
 try simp only [tN, bN, lN]
 refine hK14 _ _ ?_
 try clear hK14 K14
 refine T_condT (by first | rfl | simp [h0, h6, h10, h15]) ?_
 refine T_sr fun K21 hK21 => ?_
 simp [h0, h6, h10, h15]
 refine hK21 _ _ ?_
 try clear hK21 K21
 by_cases h16 : regB k o.a = true
 by_cases h17 : areaB o.b = true
 refine T_rg ?_
 simp [h0, h6, h10, h15, h16, h17]
 refine callK.of (regIs _ c k o.a) ?_
 rintro _ Hz ⟨rfl, hz⟩
 subst Hz
 simp [h0, h6, h10, h15, h16, h17]
 refine callK.of (areaIs _ o.b) ?_
 rintro _ Hz ⟨rfl, hz⟩
 subst Hz
 simp [h0, h6, h10, h15, h16, h17]
 refine callK.of (numberIs _ o.c 4096) ?_
 rintro _ Hz ⟨rfl, hz⟩
 subst Hz
 simp [h0, h6, h10, h15, h16, h17]
 refine hK3 _ _ ?_
 try clear hK3 K3
 refine T_seqk fun K22 hK22 => ?_
 by_cases h18 : numberB o.c 4096 = true
 refine T_rg ?_
 simp [h0, h6, h10, h15, h16, h17, h18]
 refine callK.of (zeroIs _ ({ a := false, b := false, c := false, d := true, bounds := true, value := true } : DNeed) ({ code := 4, a := o.a, b := o.b, c := o.c, d := o.d, lo := o.lo, hi := o.hi, value := o.value } : DOp)) ?_
 rintro _ Hz ⟨rfl, hz⟩
 subst Hz
 simp [h0, h6, h10, h15, h16, h17, h18]
 refine hK22 _ _ ?_
 try clear hK22 K22
 refine T_ret ?_
 try simp only [tR, bR, lR]
 by_cases h19 : zeroB ({ a := false, b := false, c := false, d := true, bounds := true, value := true } : DNeed) ({ code := 4, a := o.a, b := o.b, c := o.c, d := o.d, lo := o.lo, hi := o.hi, value := o.value } : DOp) = true
 exact owes_one (.inr rfl) hwf rfl (by rw [show mayO k o = true from by simp only [mayO, if_neg h0, if_neg h6, if_neg h10, if_pos h15, if_pos h16, if_pos h17, if_pos h18, if_pos h19]] <;> simp [h0, h6, h10, h15, h16, h17, h18, h19]) (by simp (maxDischargeDepth := 20)) (by simp) (by simp)
 exact owes_one (.inr rfl) hwf rfl (by rw [show mayO k o = false from by simp only [mayO, if_neg h0, if_neg h6, if_neg h10, if_pos h15, if_pos h16, if_pos h17, if_pos h18, if_neg h19]] <;> simp [h0, h6, h10, h15, h16, h17, h18, h19]) (by simp (maxDischargeDepth := 20)) (by simp) (by simp)
 refine T_rg ?_
 simp [h0, h6, h10, h15, h16, h17, h18]
 refine hK22 _ _ ?_
 try clear hK22 K22
 refine T_ret ?_
 try simp only [tR, bR, lR]
 exact owes_one (.inr rfl) hwf rfl (by rw [show mayO k o = false from by simp only [mayO, if_neg h0, if_neg h6, if_neg h10, if_pos h15, if_pos h16, if_pos h17, if_neg h18]] <;> simp [h0, h6, h10, h15, h16, h17, h18]) (by simp (maxDischargeDepth := 20)) (by simp) (by simp)
 refine T_rg ?_
 simp [h0, h6, h10, h15, h16, h17]
 refine callK.of (regIs _ c k o.a) ?_
 rintro _ Hz ⟨rfl, hz⟩
 subst Hz
 simp [h0, h6, h10, h15, h16, h17]
 refine callK.of (areaIs _ o.b) ?_
 rintro _ Hz ⟨rfl, hz⟩
 subst Hz
 simp [h0, h6, h10, h15, h16, h17]
 refine hK3 _ _ ?_
 try clear hK3 K3
 refine T_sr fun K23 hK23 => ?_
 simp [h0, h6, h10, h15, h16, h17]
 refine hK23 _ _ ?_
 try clear hK23 K23
 refine T_ret ?_
 try simp only [tR, bR, lR]
 exact owes_one (.inr rfl) hwf rfl (by rw [show mayO k o = false from by simp only [mayO, if_neg h0, if_neg h6, if_neg h10, if_pos h15, if_pos h16, if_neg h17]] <;> simp [h0, h6, h10, h15, h16, h17]) (by simp (maxDischargeDepth := 20)) (by simp) (by simp)
 refine T_rg ?_
 simp [h0, h6, h10, h15, h16]
 refine callK.of (regIs _ c k o.a) ?_
 rintro _ Hz ⟨rfl, hz⟩
 subst Hz
 simp [h0, h6, h10, h15, h16]
 refine hK3 _ _ ?_
 try clear hK3 K3
 refine T_sr fun K24 hK24 => ?_
 simp [h0, h6, h10, h15, h16]
 refine hK24 _ _ ?_
 try clear hK24 K24
 refine T_ret ?_
 try simp only [tR, bR, lR]
 exact owes_one (.inr rfl) hwf rfl (by rw [show mayO k o = false from by simp only [mayO, if_neg h0, if_neg h6, if_neg h10, if_pos h15, if_neg h16]] <;> simp [h0, h6, h10, h15, h16]) (by simp (maxDischargeDepth := 20)) (by simp) (by simp)
 refine T_condF (by first | rfl | simp [h0, h6, h10, h15]) ?_
 refine T_rg ?_
 simp [h0, h6, h10, h15]
 refine hK14 _ _ ?_
 try clear hK14 K14
 by_cases h20 : o.code = 7
 refine T_condT (by first | rfl | simp [h0, h6, h10, h15, h20]) ?_
 refine T_sr fun K25 hK25 => ?_
 simp [h0, h6, h10, h15, h20]
 refine hK25 _ _ ?_
 try clear hK25 K25
 by_cases h21 : regB k o.a = true
 by_cases h22 : areaB o.b = true
 refine T_rg ?_
 simp [h0, h6, h10, h15, h20, h21, h22]
 refine callK.of (regIs _ c k o.a) ?_
 rintro _ Hz ⟨rfl, hz⟩
 subst Hz
 simp [h0, h6, h10, h15, h20, h21, h22]
 refine callK.of (areaIs _ o.b) ?_
 rintro _ Hz ⟨rfl, hz⟩
 subst Hz
 simp [h0, h6, h10, h15, h20, h21, h22]
 refine callK.of (numberIs _ o.c 4096) ?_
 rintro _ Hz ⟨rfl, hz⟩
 subst Hz
 simp [h0, h6, h10, h15, h20, h21, h22]
 refine hK3 _ _ ?_
 try clear hK3 K3
 refine T_seqk fun K26 hK26 => ?_
 by_cases h23 : numberB o.c 4096 = true
 refine T_rg ?_
 simp [h0, h6, h10, h15, h20, h21, h22, h23]
 refine callK.of (zeroIs _ ({ a := false, b := false, c := false, d := true, bounds := true, value := true } : DNeed) ({ code := 7, a := o.a, b := o.b, c := o.c, d := o.d, lo := o.lo, hi := o.hi, value := o.value } : DOp)) ?_
 rintro _ Hz ⟨rfl, hz⟩
 subst Hz
 simp [h0, h6, h10, h15, h20, h21, h22, h23]
 refine hK26 _ _ ?_
 try clear hK26 K26
 refine T_ret ?_
 try simp only [tR, bR, lR]
 by_cases h24 : zeroB ({ a := false, b := false, c := false, d := true, bounds := true, value := true } : DNeed) ({ code := 7, a := o.a, b := o.b, c := o.c, d := o.d, lo := o.lo, hi := o.hi, value := o.value } : DOp) = true
 exact owes_one (.inr rfl) hwf rfl (by rw [show mayO k o = true from by simp only [mayO, if_neg h0, if_neg h6, if_neg h10, if_neg h15, if_pos h20, if_pos h21, if_pos h22, if_pos h23, if_pos h24]] <;> simp [h0, h6, h10, h15, h20, h21, h22, h23, h24]) (by simp (maxDischargeDepth := 20)) (by simp) (by simp)
 exact owes_one (.inr rfl) hwf rfl (by rw [show mayO k o = false from by simp only [mayO, if_neg h0, if_neg h6, if_neg h10, if_neg h15, if_pos h20, if_pos h21, if_pos h22, if_pos h23, if_neg h24]] <;> simp [h0, h6, h10, h15, h20, h21, h22, h23, h24]) (by simp (maxDischargeDepth := 20)) (by simp) (by simp)
 refine T_rg ?_
 simp [h0, h6, h10, h15, h20, h21, h22, h23]
 refine hK26 _ _ ?_
 try clear hK26 K26
 refine T_ret ?_
 try simp only [tR, bR, lR]
 exact owes_one (.inr rfl) hwf rfl (by rw [show mayO k o = false from by simp only [mayO, if_neg h0, if_neg h6, if_neg h10, if_neg h15, if_pos h20, if_pos h21, if_pos h22, if_neg h23]] <;> simp [h0, h6, h10, h15, h20, h21, h22, h23]) (by simp (maxDischargeDepth := 20)) (by simp) (by simp)
 refine T_rg ?_
 simp [h0, h6, h10, h15, h20, h21, h22]
 refine callK.of (regIs _ c k o.a) ?_
 rintro _ Hz ⟨rfl, hz⟩
 subst Hz
 simp [h0, h6, h10, h15, h20, h21, h22]
 refine callK.of (areaIs _ o.b) ?_
 rintro _ Hz ⟨rfl, hz⟩
 subst Hz
 simp [h0, h6, h10, h15, h20, h21, h22]
 refine hK3 _ _ ?_
 try clear hK3 K3
 refine T_sr fun K27 hK27 => ?_
 simp [h0, h6, h10, h15, h20, h21, h22]
 refine hK27 _ _ ?_
 try clear hK27 K27
 refine T_ret ?_
 try simp only [tR, bR, lR]
 exact owes_one (.inr rfl) hwf rfl (by rw [show mayO k o = false from by simp only [mayO, if_neg h0, if_neg h6, if_neg h10, if_neg h15, if_pos h20, if_pos h21, if_neg h22]] <;> simp [h0, h6, h10, h15, h20, h21, h22]) (by simp (maxDischargeDepth := 20)) (by simp) (by simp)
 refine T_rg ?_
 simp [h0, h6, h10, h15, h20, h21]
 refine callK.of (regIs _ c k o.a) ?_
 rintro _ Hz ⟨rfl, hz⟩
 subst Hz
 simp [h0, h6, h10, h15, h20, h21]
 refine hK3 _ _ ?_
 try clear hK3 K3
 refine T_sr fun K28 hK28 => ?_
 simp [h0, h6, h10, h15, h20, h21]
 refine hK28 _ _ ?_
 try clear hK28 K28
 refine T_ret ?_
 try simp only [tR, bR, lR]
 exact owes_one (.inr rfl) hwf rfl (by rw [show mayO k o = false from by simp only [mayO, if_neg h0, if_neg h6, if_neg h10, if_neg h15, if_pos h20, if_neg h21]] <;> simp [h0, h6, h10, h15, h20, h21]) (by simp (maxDischargeDepth := 20)) (by simp) (by simp)
 refine T_condF (by first | rfl | simp [h0, h6, h10, h15, h20]) ?_
 refine T_seqk fun K29 hK29 => ?_
 refine T_sr fun K30 hK30 => ?_
 simp [h0, h6, h10, h15, h20]
 refine hK30 _ _ ?_
 try clear hK30 K30
 by_cases h25 : o.code = 5
 refine T_condT (by first | rfl | simp [h0, h6, h10, h15, h20, h25]) ?_
 refine T_skip ?_
 try simp only [tN, bN, lN]
 refine hK29 _ _ ?_
 try clear hK29 K29
 refine T_condT (by first | rfl | simp [h0, h6, h10, h15, h20, h25]) ?_
 refine T_sr fun K31 hK31 => ?_
 simp [h0, h6, h10, h15, h20, h25]
 refine hK31 _ _ ?_
 try clear hK31 K31
 by_cases h26 : regB k o.a = true
 by_cases h27 : areaB o.b = true
 by_cases h28 : numberB o.c 4096 = true
 by_cases h29 : regB k o.d = true
 refine T_rg ?_
 simp [h0, h6, h10, h15, h20, h25, h26, h27, h28, h29]
 refine callK.of (regIs _ c k o.a) ?_
 rintro _ Hz ⟨rfl, hz⟩
 subst Hz
 simp [h0, h6, h10, h15, h20, h25, h26, h27, h28, h29]
 refine callK.of (areaIs _ o.b) ?_
 rintro _ Hz ⟨rfl, hz⟩
 subst Hz
 simp [h0, h6, h10, h15, h20, h25, h26, h27, h28, h29]
 refine callK.of (numberIs _ o.c 4096) ?_
 rintro _ Hz ⟨rfl, hz⟩
 subst Hz
 simp [h0, h6, h10, h15, h20, h25, h26, h27, h28, h29]
 refine callK.of (regIs _ c k o.d) ?_
 rintro _ Hz ⟨rfl, hz⟩
 subst Hz
 simp [h0, h6, h10, h15, h20, h25, h26, h27, h28, h29]
 refine callK.of (nearIs _ o.lo o.hi) ?_
 rintro _ Hz ⟨rfl, hz⟩
 subst Hz
 simp [h0, h6, h10, h15, h20, h25, h26, h27, h28, h29]
 refine hK3 _ _ ?_
 try clear hK3 K3
 refine T_seqk fun K32 hK32 => ?_
 by_cases h30 : nearB o.lo o.hi = true
 refine T_rg ?_
 simp [h0, h6, h10, h15, h20, h25, h26, h27, h28, h29, h30]
 refine callK.of (zeroIs _ ({ a := false, b := false, c := false, d := false, bounds := false, value := true } : DNeed) ({ code := 5, a := o.a, b := o.b, c := o.c, d := o.d, lo := o.lo, hi := o.hi, value := o.value } : DOp)) ?_
 rintro _ Hz ⟨rfl, hz⟩
 subst Hz
 simp [h0, h6, h10, h15, h20, h25, h26, h27, h28, h29, h30]
 refine hK32 _ _ ?_
 try clear hK32 K32
 refine T_ret ?_
 try simp only [tR, bR, lR]
 by_cases h31 : zeroB ({ a := false, b := false, c := false, d := false, bounds := false, value := true } : DNeed) ({ code := 5, a := o.a, b := o.b, c := o.c, d := o.d, lo := o.lo, hi := o.hi, value := o.value } : DOp) = true
 exact owes_one (.inr rfl) hwf rfl (by rw [show mayO k o = true from by simp only [mayO, if_neg h0, if_neg h6, if_neg h10, if_neg h15, if_neg h20, if_pos h25, if_pos h26, if_pos h27, if_pos h28, if_pos h29, if_pos h30, if_pos h31]] <;> simp [h0, h6, h10, h15, h20, h25, h26, h27, h28, h29, h30, h31]) (by simp (maxDischargeDepth := 20)) (by simp) (by simp)
 exact owes_one (.inr rfl) hwf rfl (by rw [show mayO k o = false from by simp only [mayO, if_neg h0, if_neg h6, if_neg h10, if_neg h15, if_neg h20, if_pos h25, if_pos h26, if_pos h27, if_pos h28, if_pos h29, if_pos h30, if_neg h31]] <;> simp [h0, h6, h10, h15, h20, h25, h26, h27, h28, h29, h30, h31]) (by simp (maxDischargeDepth := 20)) (by simp) (by simp)
 refine T_rg ?_
 simp [h0, h6, h10, h15, h20, h25, h26, h27, h28, h29, h30]
 refine hK32 _ _ ?_
 try clear hK32 K32
 refine T_ret ?_
 try simp only [tR, bR, lR]
 exact owes_one (.inr rfl) hwf rfl (by rw [show mayO k o = false from by simp only [mayO, if_neg h0, if_neg h6, if_neg h10, if_neg h15, if_neg h20, if_pos h25, if_pos h26, if_pos h27, if_pos h28, if_pos h29, if_neg h30]] <;> simp [h0, h6, h10, h15, h20, h25, h26, h27, h28, h29, h30]) (by simp (maxDischargeDepth := 20)) (by simp) (by simp)
 refine T_rg ?_
 simp [h0, h6, h10, h15, h20, h25, h26, h27, h28, h29]
 refine callK.of (regIs _ c k o.a) ?_
 rintro _ Hz ⟨rfl, hz⟩
 subst Hz
 simp [h0, h6, h10, h15, h20, h25, h26, h27, h28, h29]
 refine callK.of (areaIs _ o.b) ?_
 rintro _ Hz ⟨rfl, hz⟩
 subst Hz
 simp [h0, h6, h10, h15, h20, h25, h26, h27, h28, h29]
 refine callK.of (numberIs _ o.c 4096) ?_
 rintro _ Hz ⟨rfl, hz⟩
 subst Hz
 simp [h0, h6, h10, h15, h20, h25, h26, h27, h28, h29]
 refine callK.of (regIs _ c k o.d) ?_
 rintro _ Hz ⟨rfl, hz⟩
 subst Hz
 simp [h0, h6, h10, h15, h20, h25, h26, h27, h28, h29]
 refine hK3 _ _ ?_
 try clear hK3 K3
 refine T_sr fun K33 hK33 => ?_
 simp [h0, h6, h10, h15, h20, h25, h26, h27, h28, h29]
 refine hK33 _ _ ?_
 try clear hK33 K33
 refine T_ret ?_
 try simp only [tR, bR, lR]
 exact owes_one (.inr rfl) hwf rfl (by rw [show mayO k o = false from by simp only [mayO, if_neg h0, if_neg h6, if_neg h10, if_neg h15, if_neg h20, if_pos h25, if_pos h26, if_pos h27, if_pos h28, if_neg h29]] <;> simp [h0, h6, h10, h15, h20, h25, h26, h27, h28, h29]) (by simp (maxDischargeDepth := 20)) (by simp) (by simp)
 refine T_rg ?_
 simp [h0, h6, h10, h15, h20, h25, h26, h27, h28]
 refine callK.of (regIs _ c k o.a) ?_
 rintro _ Hz ⟨rfl, hz⟩
 subst Hz
 simp [h0, h6, h10, h15, h20, h25, h26, h27, h28]
 refine callK.of (areaIs _ o.b) ?_
 rintro _ Hz ⟨rfl, hz⟩
 subst Hz
 simp [h0, h6, h10, h15, h20, h25, h26, h27, h28]
 refine callK.of (numberIs _ o.c 4096) ?_
 rintro _ Hz ⟨rfl, hz⟩
 subst Hz
 simp [h0, h6, h10, h15, h20, h25, h26, h27, h28]
 refine hK3 _ _ ?_
 try clear hK3 K3
 refine T_sr fun K34 hK34 => ?_
 simp [h0, h6, h10, h15, h20, h25, h26, h27, h28]
 refine hK34 _ _ ?_
 try clear hK34 K34
 refine T_ret ?_
 try simp only [tR, bR, lR]
 exact owes_one (.inr rfl) hwf rfl (by rw [show mayO k o = false from by simp only [mayO, if_neg h0, if_neg h6, if_neg h10, if_neg h15, if_neg h20, if_pos h25, if_pos h26, if_pos h27, if_neg h28]] <;> simp [h0, h6, h10, h15, h20, h25, h26, h27, h28]) (by simp (maxDischargeDepth := 20)) (by simp) (by simp)
 refine T_rg ?_
 simp [h0, h6, h10, h15, h20, h25, h26, h27]
 refine callK.of (regIs _ c k o.a) ?_
 rintro _ Hz ⟨rfl, hz⟩
 subst Hz
 simp [h0, h6, h10, h15, h20, h25, h26, h27]
 refine callK.of (areaIs _ o.b) ?_
 rintro _ Hz ⟨rfl, hz⟩
 subst Hz
 simp [h0, h6, h10, h15, h20, h25, h26, h27]
 refine hK3 _ _ ?_
 try clear hK3 K3
 refine T_sr fun K35 hK35 => ?_
 simp [h0, h6, h10, h15, h20, h25, h26, h27]
 refine hK35 _ _ ?_
 try clear hK35 K35
 refine T_ret ?_
 try simp only [tR, bR, lR]
 exact owes_one (.inr rfl) hwf rfl (by rw [show mayO k o = false from by simp only [mayO, if_neg h0, if_neg h6, if_neg h10, if_neg h15, if_neg h20, if_pos h25, if_pos h26, if_neg h27]] <;> simp [h0, h6, h10, h15, h20, h25, h26, h27]) (by simp (maxDischargeDepth := 20)) (by simp) (by simp)
 refine T_rg ?_
 simp [h0, h6, h10, h15, h20, h25, h26]
 refine callK.of (regIs _ c k o.a) ?_
 rintro _ Hz ⟨rfl, hz⟩
 subst Hz
 simp [h0, h6, h10, h15, h20, h25, h26]
 refine hK3 _ _ ?_
 try clear hK3 K3
 refine T_sr fun K36 hK36 => ?_
 simp [h0, h6, h10, h15, h20, h25, h26]
 refine hK36 _ _ ?_
 try clear hK36 K36
 refine T_ret ?_
 try simp only [tR, bR, lR]
 exact owes_one (.inr rfl) hwf rfl (by rw [show mayO k o = false from by simp only [mayO, if_neg h0, if_neg h6, if_neg h10, if_neg h15, if_neg h20, if_pos h25, if_neg h26]] <;> simp [h0, h6, h10, h15, h20, h25, h26]) (by simp (maxDischargeDepth := 20)) (by simp) (by simp)
 refine T_condF (by first | rfl | simp [h0, h6, h10, h15, h20, h25]) ?_
 refine T_sr fun K37 hK37 => ?_
 simp [h0, h6, h10, h15, h20, h25]
 refine hK37 _ _ ?_
 try clear hK37 K37
 by_cases h32 : o.code = 6
 refine T_condT (by first | rfl | simp [h0, h6, h10, h15, h20, h25, h32]) ?_
 refine T_skip ?_
 try simp only [tN, bN, lN]
 refine hK29 _ _ ?_
 try clear hK29 K29
 refine T_condT (by first | rfl | simp [h0, h6, h10, h15, h20, h25, h32]) ?_
 refine T_sr fun K38 hK38 => ?_
 simp [h0, h6, h10, h15, h20, h25, h32]
 refine hK38 _ _ ?_
 try clear hK38 K38
 by_cases h33 : regB k o.a = true
 by_cases h34 : areaB o.b = true
 by_cases h35 : numberB o.c 4096 = true
 by_cases h36 : regB k o.d = true
 refine T_rg ?_
 simp [h0, h6, h10, h15, h20, h25, h32, h33, h34, h35, h36]
 refine callK.of (regIs _ c k o.a) ?_
 rintro _ Hz ⟨rfl, hz⟩
 subst Hz
 simp [h0, h6, h10, h15, h20, h25, h32, h33, h34, h35, h36]
 refine callK.of (areaIs _ o.b) ?_
 rintro _ Hz ⟨rfl, hz⟩
 subst Hz
 simp [h0, h6, h10, h15, h20, h25, h32, h33, h34, h35, h36]
 refine callK.of (numberIs _ o.c 4096) ?_
 rintro _ Hz ⟨rfl, hz⟩
 subst Hz
 simp [h0, h6, h10, h15, h20, h25, h32, h33, h34, h35, h36]
 refine callK.of (regIs _ c k o.d) ?_
 rintro _ Hz ⟨rfl, hz⟩
 subst Hz
 simp [h0, h6, h10, h15, h20, h25, h32, h33, h34, h35, h36]
 refine callK.of (nearIs _ o.lo o.hi) ?_
 rintro _ Hz ⟨rfl, hz⟩
 subst Hz
 simp [h0, h6, h10, h15, h20, h25, h32, h33, h34, h35, h36]
 refine hK3 _ _ ?_
 try clear hK3 K3
 refine T_seqk fun K39 hK39 => ?_
 by_cases h37 : nearB o.lo o.hi = true
 refine T_rg ?_
 simp [h0, h6, h10, h15, h20, h25, h32, h33, h34, h35, h36, h37]
 refine callK.of (zeroIs _ ({ a := false, b := false, c := false, d := false, bounds := false, value := true } : DNeed) ({ code := 6, a := o.a, b := o.b, c := o.c, d := o.d, lo := o.lo, hi := o.hi, value := o.value } : DOp)) ?_
 rintro _ Hz ⟨rfl, hz⟩
 subst Hz
 simp [h0, h6, h10, h15, h20, h25, h32, h33, h34, h35, h36, h37]
 refine hK39 _ _ ?_
 try clear hK39 K39
 refine T_ret ?_
 try simp only [tR, bR, lR]
 by_cases h38 : zeroB ({ a := false, b := false, c := false, d := false, bounds := false, value := true } : DNeed) ({ code := 6, a := o.a, b := o.b, c := o.c, d := o.d, lo := o.lo, hi := o.hi, value := o.value } : DOp) = true
 exact owes_one (.inr rfl) hwf rfl (by rw [show mayO k o = true from by simp only [mayO, if_neg h0, if_neg h6, if_neg h10, if_neg h15, if_neg h20, if_neg h25, if_pos h32, if_pos h33, if_pos h34, if_pos h35, if_pos h36, if_pos h37, if_pos h38]] <;> simp [h0, h6, h10, h15, h20, h25, h32, h33, h34, h35, h36, h37, h38]) (by simp (maxDischargeDepth := 20)) (by simp) (by simp)
 exact owes_one (.inr rfl) hwf rfl (by rw [show mayO k o = false from by simp only [mayO, if_neg h0, if_neg h6, if_neg h10, if_neg h15, if_neg h20, if_neg h25, if_pos h32, if_pos h33, if_pos h34, if_pos h35, if_pos h36, if_pos h37, if_neg h38]] <;> simp [h0, h6, h10, h15, h20, h25, h32, h33, h34, h35, h36, h37, h38]) (by simp (maxDischargeDepth := 20)) (by simp) (by simp)
 refine T_rg ?_
 simp [h0, h6, h10, h15, h20, h25, h32, h33, h34, h35, h36, h37]
 refine hK39 _ _ ?_
 try clear hK39 K39
 refine T_ret ?_
 try simp only [tR, bR, lR]
 exact owes_one (.inr rfl) hwf rfl (by rw [show mayO k o = false from by simp only [mayO, if_neg h0, if_neg h6, if_neg h10, if_neg h15, if_neg h20, if_neg h25, if_pos h32, if_pos h33, if_pos h34, if_pos h35, if_pos h36, if_neg h37]] <;> simp [h0, h6, h10, h15, h20, h25, h32, h33, h34, h35, h36, h37]) (by simp (maxDischargeDepth := 20)) (by simp) (by simp)
 refine T_rg ?_
 simp [h0, h6, h10, h15, h20, h25, h32, h33, h34, h35, h36]
 refine callK.of (regIs _ c k o.a) ?_
 rintro _ Hz ⟨rfl, hz⟩
 subst Hz
 simp [h0, h6, h10, h15, h20, h25, h32, h33, h34, h35, h36]
 refine callK.of (areaIs _ o.b) ?_
 rintro _ Hz ⟨rfl, hz⟩
 subst Hz
 simp [h0, h6, h10, h15, h20, h25, h32, h33, h34, h35, h36]
 refine callK.of (numberIs _ o.c 4096) ?_
 rintro _ Hz ⟨rfl, hz⟩
 subst Hz
 simp [h0, h6, h10, h15, h20, h25, h32, h33, h34, h35, h36]
 refine callK.of (regIs _ c k o.d) ?_
 rintro _ Hz ⟨rfl, hz⟩
 subst Hz
 simp [h0, h6, h10, h15, h20, h25, h32, h33, h34, h35, h36]
 refine hK3 _ _ ?_
 try clear hK3 K3
 refine T_sr fun K40 hK40 => ?_
 simp [h0, h6, h10, h15, h20, h25, h32, h33, h34, h35, h36]
 refine hK40 _ _ ?_
 try clear hK40 K40
 refine T_ret ?_
 try simp only [tR, bR, lR]
 exact owes_one (.inr rfl) hwf rfl (by rw [show mayO k o = false from by simp only [mayO, if_neg h0, if_neg h6, if_neg h10, if_neg h15, if_neg h20, if_neg h25, if_pos h32, if_pos h33, if_pos h34, if_pos h35, if_neg h36]] <;> simp [h0, h6, h10, h15, h20, h25, h32, h33, h34, h35, h36]) (by simp (maxDischargeDepth := 20)) (by simp) (by simp)
 refine T_rg ?_
 simp [h0, h6, h10, h15, h20, h25, h32, h33, h34, h35]
 refine callK.of (regIs _ c k o.a) ?_
 rintro _ Hz ⟨rfl, hz⟩
 subst Hz
 simp [h0, h6, h10, h15, h20, h25, h32, h33, h34, h35]
 refine callK.of (areaIs _ o.b) ?_
 rintro _ Hz ⟨rfl, hz⟩
 subst Hz
 simp [h0, h6, h10, h15, h20, h25, h32, h33, h34, h35]
 refine callK.of (numberIs _ o.c 4096) ?_
 rintro _ Hz ⟨rfl, hz⟩
 subst Hz
 simp [h0, h6, h10, h15, h20, h25, h32, h33, h34, h35]
 refine hK3 _ _ ?_
 try clear hK3 K3
 refine T_sr fun K41 hK41 => ?_
 simp [h0, h6, h10, h15, h20, h25, h32, h33, h34, h35]
 refine hK41 _ _ ?_
 try clear hK41 K41
 refine T_ret ?_
 try simp only [tR, bR, lR]
 exact owes_one (.inr rfl) hwf rfl (by rw [show mayO k o = false from by simp only [mayO, if_neg h0, if_neg h6, if_neg h10, if_neg h15, if_neg h20, if_neg h25, if_pos h32, if_pos h33, if_pos h34, if_neg h35]] <;> simp [h0, h6, h10, h15, h20, h25, h32, h33, h34, h35]) (by simp (maxDischargeDepth := 20)) (by simp) (by simp)
 refine T_rg ?_
 simp [h0, h6, h10, h15, h20, h25, h32, h33, h34]
 refine callK.of (regIs _ c k o.a) ?_
 rintro _ Hz ⟨rfl, hz⟩
 subst Hz
 simp [h0, h6, h10, h15, h20, h25, h32, h33, h34]
 refine callK.of (areaIs _ o.b) ?_
 rintro _ Hz ⟨rfl, hz⟩
 subst Hz
 simp [h0, h6, h10, h15, h20, h25, h32, h33, h34]
 refine hK3 _ _ ?_
 try clear hK3 K3
 refine T_sr fun K42 hK42 => ?_
 simp [h0, h6, h10, h15, h20, h25, h32, h33, h34]
 refine hK42 _ _ ?_
 try clear hK42 K42
 refine T_ret ?_
 try simp only [tR, bR, lR]
 exact owes_one (.inr rfl) hwf rfl (by rw [show mayO k o = false from by simp only [mayO, if_neg h0, if_neg h6, if_neg h10, if_neg h15, if_neg h20, if_neg h25, if_pos h32, if_pos h33, if_neg h34]] <;> simp [h0, h6, h10, h15, h20, h25, h32, h33, h34]) (by simp (maxDischargeDepth := 20)) (by simp) (by simp)
 refine T_rg ?_
 simp [h0, h6, h10, h15, h20, h25, h32, h33]
 refine callK.of (regIs _ c k o.a) ?_
 rintro _ Hz ⟨rfl, hz⟩
 subst Hz
 simp [h0, h6, h10, h15, h20, h25, h32, h33]
 refine hK3 _ _ ?_
 try clear hK3 K3
 refine T_sr fun K43 hK43 => ?_
 simp [h0, h6, h10, h15, h20, h25, h32, h33]
 refine hK43 _ _ ?_
 try clear hK43 K43
 refine T_ret ?_
 try simp only [tR, bR, lR]
 exact owes_one (.inr rfl) hwf rfl (by rw [show mayO k o = false from by simp only [mayO, if_neg h0, if_neg h6, if_neg h10, if_neg h15, if_neg h20, if_neg h25, if_pos h32, if_neg h33]] <;> simp [h0, h6, h10, h15, h20, h25, h32, h33]) (by simp (maxDischargeDepth := 20)) (by simp) (by simp)
 refine T_condF (by first | rfl | simp [h0, h6, h10, h15, h20, h25, h32]) ?_
 refine T_rg ?_
 simp [h0, h6, h10, h15, h20, h25, h32]
 refine hK29 _ _ ?_
 try clear hK29 K29
 by_cases h39 : o.code = 8
 refine T_condT (by first | rfl | simp [h0, h6, h10, h15, h20, h25, h32, h39]) ?_
 refine T_sr fun K44 hK44 => ?_
 simp [h0, h6, h10, h15, h20, h25, h32, h39]
 refine hK44 _ _ ?_
 try clear hK44 K44
 by_cases h40 : regB k o.a = true
 by_cases h41 : areaB o.b = true
 by_cases h42 : numberB o.c 4096 = true
 by_cases h43 : regB k o.d = true
 refine T_rg ?_
 simp [h0, h6, h10, h15, h20, h25, h32, h39, h40, h41, h42, h43]
 refine callK.of (regIs _ c k o.a) ?_
 rintro _ Hz ⟨rfl, hz⟩
 subst Hz
 simp [h0, h6, h10, h15, h20, h25, h32, h39, h40, h41, h42, h43]
 refine callK.of (areaIs _ o.b) ?_
 rintro _ Hz ⟨rfl, hz⟩
 subst Hz
 simp [h0, h6, h10, h15, h20, h25, h32, h39, h40, h41, h42, h43]
 refine callK.of (numberIs _ o.c 4096) ?_
 rintro _ Hz ⟨rfl, hz⟩
 subst Hz
 simp [h0, h6, h10, h15, h20, h25, h32, h39, h40, h41, h42, h43]
 refine callK.of (regIs _ c k o.d) ?_
 rintro _ Hz ⟨rfl, hz⟩
 subst Hz
 simp [h0, h6, h10, h15, h20, h25, h32, h39, h40, h41, h42, h43]
 refine callK.of (nearIs _ o.lo o.hi) ?_
 rintro _ Hz ⟨rfl, hz⟩
 subst Hz
 simp [h0, h6, h10, h15, h20, h25, h32, h39, h40, h41, h42, h43]
 refine hK3 _ _ ?_
 try clear hK3 K3
 refine T_seqk fun K45 hK45 => ?_
 by_cases h44 : nearB o.lo o.hi = true
 refine T_rg ?_
 simp [h0, h6, h10, h15, h20, h25, h32, h39, h40, h41, h42, h43, h44]
 refine callK.of (zeroIs _ ({ a := false, b := false, c := false, d := false, bounds := false, value := true } : DNeed) ({ code := 8, a := o.a, b := o.b, c := o.c, d := o.d, lo := o.lo, hi := o.hi, value := o.value } : DOp)) ?_
 rintro _ Hz ⟨rfl, hz⟩
 subst Hz
 simp [h0, h6, h10, h15, h20, h25, h32, h39, h40, h41, h42, h43, h44]
 refine hK45 _ _ ?_
 try clear hK45 K45
 refine T_ret ?_
 try simp only [tR, bR, lR]
 by_cases h45 : zeroB ({ a := false, b := false, c := false, d := false, bounds := false, value := true } : DNeed) ({ code := 8, a := o.a, b := o.b, c := o.c, d := o.d, lo := o.lo, hi := o.hi, value := o.value } : DOp) = true
 exact owes_one (.inr rfl) hwf rfl (by rw [show mayO k o = true from by simp only [mayO, if_neg h0, if_neg h6, if_neg h10, if_neg h15, if_neg h20, if_neg h25, if_neg h32, if_pos h39, if_pos h40, if_pos h41, if_pos h42, if_pos h43, if_pos h44, if_pos h45]] <;> simp [h0, h6, h10, h15, h20, h25, h32, h39, h40, h41, h42, h43, h44, h45]) (by simp (maxDischargeDepth := 20)) (by simp) (by simp)
 exact owes_one (.inr rfl) hwf rfl (by rw [show mayO k o = false from by simp only [mayO, if_neg h0, if_neg h6, if_neg h10, if_neg h15, if_neg h20, if_neg h25, if_neg h32, if_pos h39, if_pos h40, if_pos h41, if_pos h42, if_pos h43, if_pos h44, if_neg h45]] <;> simp [h0, h6, h10, h15, h20, h25, h32, h39, h40, h41, h42, h43, h44, h45]) (by simp (maxDischargeDepth := 20)) (by simp) (by simp)
 refine T_rg ?_
 simp [h0, h6, h10, h15, h20, h25, h32, h39, h40, h41, h42, h43, h44]
 refine hK45 _ _ ?_
 try clear hK45 K45
 refine T_ret ?_
 try simp only [tR, bR, lR]
 exact owes_one (.inr rfl) hwf rfl (by rw [show mayO k o = false from by simp only [mayO, if_neg h0, if_neg h6, if_neg h10, if_neg h15, if_neg h20, if_neg h25, if_neg h32, if_pos h39, if_pos h40, if_pos h41, if_pos h42, if_pos h43, if_neg h44]] <;> simp [h0, h6, h10, h15, h20, h25, h32, h39, h40, h41, h42, h43, h44]) (by simp (maxDischargeDepth := 20)) (by simp) (by simp)
 refine T_rg ?_
 simp [h0, h6, h10, h15, h20, h25, h32, h39, h40, h41, h42, h43]
 refine callK.of (regIs _ c k o.a) ?_
 rintro _ Hz ⟨rfl, hz⟩
 subst Hz
 simp [h0, h6, h10, h15, h20, h25, h32, h39, h40, h41, h42, h43]
 refine callK.of (areaIs _ o.b) ?_
 rintro _ Hz ⟨rfl, hz⟩
 subst Hz
 simp [h0, h6, h10, h15, h20, h25, h32, h39, h40, h41, h42, h43]
 refine callK.of (numberIs _ o.c 4096) ?_
 rintro _ Hz ⟨rfl, hz⟩
 subst Hz
 simp [h0, h6, h10, h15, h20, h25, h32, h39, h40, h41, h42, h43]
 refine callK.of (regIs _ c k o.d) ?_
 rintro _ Hz ⟨rfl, hz⟩
 subst Hz
 simp [h0, h6, h10, h15, h20, h25, h32, h39, h40, h41, h42, h43]
 refine hK3 _ _ ?_
 try clear hK3 K3
 refine T_sr fun K46 hK46 => ?_
 simp [h0, h6, h10, h15, h20, h25, h32, h39, h40, h41, h42, h43]
 refine hK46 _ _ ?_
 try clear hK46 K46
 refine T_ret ?_
 try simp only [tR, bR, lR]
 exact owes_one (.inr rfl) hwf rfl (by rw [show mayO k o = false from by simp only [mayO, if_neg h0, if_neg h6, if_neg h10, if_neg h15, if_neg h20, if_neg h25, if_neg h32, if_pos h39, if_pos h40, if_pos h41, if_pos h42, if_neg h43]] <;> simp [h0, h6, h10, h15, h20, h25, h32, h39, h40, h41, h42, h43]) (by simp (maxDischargeDepth := 20)) (by simp) (by simp)
 refine T_rg ?_
 simp [h0, h6, h10, h15, h20, h25, h32, h39, h40, h41, h42]
 refine callK.of (regIs _ c k o.a) ?_
 rintro _ Hz ⟨rfl, hz⟩
 subst Hz
 simp [h0, h6, h10, h15, h20, h25, h32, h39, h40, h41, h42]
 refine callK.of (areaIs _ o.b) ?_
 rintro _ Hz ⟨rfl, hz⟩
 subst Hz
 simp [h0, h6, h10, h15, h20, h25, h32, h39, h40, h41, h42]
 refine callK.of (numberIs _ o.c 4096) ?_
 rintro _ Hz ⟨rfl, hz⟩
 subst Hz
 simp [h0, h6, h10, h15, h20, h25, h32, h39, h40, h41, h42]
 refine hK3 _ _ ?_
 try clear hK3 K3
 refine T_sr fun K47 hK47 => ?_
 simp [h0, h6, h10, h15, h20, h25, h32, h39, h40, h41, h42]
 refine hK47 _ _ ?_
 try clear hK47 K47
 refine T_ret ?_
 try simp only [tR, bR, lR]
 exact owes_one (.inr rfl) hwf rfl (by rw [show mayO k o = false from by simp only [mayO, if_neg h0, if_neg h6, if_neg h10, if_neg h15, if_neg h20, if_neg h25, if_neg h32, if_pos h39, if_pos h40, if_pos h41, if_neg h42]] <;> simp [h0, h6, h10, h15, h20, h25, h32, h39, h40, h41, h42]) (by simp (maxDischargeDepth := 20)) (by simp) (by simp)
 refine T_rg ?_
 simp [h0, h6, h10, h15, h20, h25, h32, h39, h40, h41]
 refine callK.of (regIs _ c k o.a) ?_
 rintro _ Hz ⟨rfl, hz⟩
 subst Hz
 simp [h0, h6, h10, h15, h20, h25, h32, h39, h40, h41]
 refine callK.of (areaIs _ o.b) ?_
 rintro _ Hz ⟨rfl, hz⟩
 subst Hz
 simp [h0, h6, h10, h15, h20, h25, h32, h39, h40, h41]
 refine hK3 _ _ ?_
 try clear hK3 K3
 refine T_sr fun K48 hK48 => ?_
 simp [h0, h6, h10, h15, h20, h25, h32, h39, h40, h41]
 refine hK48 _ _ ?_
 try clear hK48 K48
 refine T_ret ?_
 try simp only [tR, bR, lR]
 exact owes_one (.inr rfl) hwf rfl (by rw [show mayO k o = false from by simp only [mayO, if_neg h0, if_neg h6, if_neg h10, if_neg h15, if_neg h20, if_neg h25, if_neg h32, if_pos h39, if_pos h40, if_neg h41]] <;> simp [h0, h6, h10, h15, h20, h25, h32, h39, h40, h41]) (by simp (maxDischargeDepth := 20)) (by simp) (by simp)
 refine T_rg ?_
 simp [h0, h6, h10, h15, h20, h25, h32, h39, h40]
 refine callK.of (regIs _ c k o.a) ?_
 rintro _ Hz ⟨rfl, hz⟩
 subst Hz
 simp [h0, h6, h10, h15, h20, h25, h32, h39, h40]
 refine hK3 _ _ ?_
 try clear hK3 K3
 refine T_sr fun K49 hK49 => ?_
 simp [h0, h6, h10, h15, h20, h25, h32, h39, h40]
 refine hK49 _ _ ?_
 try clear hK49 K49
 refine T_ret ?_
 try simp only [tR, bR, lR]
 exact owes_one (.inr rfl) hwf rfl (by rw [show mayO k o = false from by simp only [mayO, if_neg h0, if_neg h6, if_neg h10, if_neg h15, if_neg h20, if_neg h25, if_neg h32, if_pos h39, if_neg h40]] <;> simp [h0, h6, h10, h15, h20, h25, h32, h39, h40]) (by simp (maxDischargeDepth := 20)) (by simp) (by simp)
 refine T_condF (by first | rfl | simp [h0, h6, h10, h15, h20, h25, h32, h39]) ?_
 refine T_sr fun K50 hK50 => ?_
 simp [h0, h6, h10, h15, h20, h25, h32, h39]
 refine hK50 _ _ ?_
 try clear hK50 K50
 by_cases h46 : o.code = 9
 refine T_condT (by first | rfl | simp [h0, h6, h10, h15, h20, h25, h32, h39, h46]) ?_
 refine T_sr fun K51 hK51 => ?_
 simp [h0, h6, h10, h15, h20, h25, h32, h39, h46]
 refine hK51 _ _ ?_
 try clear hK51 K51
 by_cases h47 : regB k o.a = true
 by_cases h48 : regB k o.b = true
 by_cases h49 : regB k o.c = true
 by_cases h50 : 1 ≤ o.d
 refine T_rg ?_
 simp [h0, h6, h10, h15, h20, h25, h32, h39, h46, h47, h48, h49, h50]
 refine callK.of (regIs _ c k o.a) ?_
 rintro _ Hz ⟨rfl, hz⟩
 subst Hz
 simp [h0, h6, h10, h15, h20, h25, h32, h39, h46, h47, h48, h49, h50]
 refine callK.of (regIs _ c k o.b) ?_
 rintro _ Hz ⟨rfl, hz⟩
 subst Hz
 simp [h0, h6, h10, h15, h20, h25, h32, h39, h46, h47, h48, h49, h50]
 refine callK.of (regIs _ c k o.c) ?_
 rintro _ Hz ⟨rfl, hz⟩
 subst Hz
 simp [h0, h6, h10, h15, h20, h25, h32, h39, h46, h47, h48, h49, h50]
 refine hK3 _ _ ?_
 try clear hK3 K3
 refine T_seqk fun K52 hK52 => ?_
 by_cases h51 : o.d ≤ 14
 refine T_rg ?_
 simp [h0, h6, h10, h15, h20, h25, h32, h39, h46, h47, h48, h49, h50, h51]
 refine callK.of (zeroIs _ ({ a := false, b := false, c := false, d := false, bounds := true, value := true } : DNeed) ({ code := 9, a := o.a, b := o.b, c := o.c, d := o.d, lo := o.lo, hi := o.hi, value := o.value } : DOp)) ?_
 rintro _ Hz ⟨rfl, hz⟩
 subst Hz
 simp [h0, h6, h10, h15, h20, h25, h32, h39, h46, h47, h48, h49, h50, h51]
 refine hK52 _ _ ?_
 try clear hK52 K52
 refine T_ret ?_
 try simp only [tR, bR, lR]
 by_cases h52 : zeroB ({ a := false, b := false, c := false, d := false, bounds := true, value := true } : DNeed) ({ code := 9, a := o.a, b := o.b, c := o.c, d := o.d, lo := o.lo, hi := o.hi, value := o.value } : DOp) = true
 exact owes_one (.inr rfl) hwf rfl (by rw [show mayO k o = true from by simp only [mayO, if_neg h0, if_neg h6, if_neg h10, if_neg h15, if_neg h20, if_neg h25, if_neg h32, if_neg h39, if_pos h46, if_pos h47, if_pos h48, if_pos h49, if_pos h50, if_pos h51, if_pos h52]] <;> simp [h0, h6, h10, h15, h20, h25, h32, h39, h46, h47, h48, h49, h50, h51, h52]) (by simp (maxDischargeDepth := 20)) (by simp) (by simp)
 exact owes_one (.inr rfl) hwf rfl (by rw [show mayO k o = false from by simp only [mayO, if_neg h0, if_neg h6, if_neg h10, if_neg h15, if_neg h20, if_neg h25, if_neg h32, if_neg h39, if_pos h46, if_pos h47, if_pos h48, if_pos h49, if_pos h50, if_pos h51, if_neg h52]] <;> simp [h0, h6, h10, h15, h20, h25, h32, h39, h46, h47, h48, h49, h50, h51, h52]) (by simp (maxDischargeDepth := 20)) (by simp) (by simp)
 refine T_rg ?_
 simp [h0, h6, h10, h15, h20, h25, h32, h39, h46, h47, h48, h49, h50, h51]
 refine hK52 _ _ ?_
 try clear hK52 K52
 refine T_ret ?_
 try simp only [tR, bR, lR]
 exact owes_one (.inr rfl) hwf rfl (by rw [show mayO k o = false from by simp only [mayO, if_neg h0, if_neg h6, if_neg h10, if_neg h15, if_neg h20, if_neg h25, if_neg h32, if_neg h39, if_pos h46, if_pos h47, if_pos h48, if_pos h49, if_pos h50, if_neg h51]] <;> simp [h0, h6, h10, h15, h20, h25, h32, h39, h46, h47, h48, h49, h50, h51]) (by simp (maxDischargeDepth := 20)) (by simp) (by simp)
 refine T_rg ?_
 simp [h0, h6, h10, h15, h20, h25, h32, h39, h46, h47, h48, h49, h50]
 refine callK.of (regIs _ c k o.a) ?_
 rintro _ Hz ⟨rfl, hz⟩
 subst Hz
 simp [h0, h6, h10, h15, h20, h25, h32, h39, h46, h47, h48, h49, h50]
 refine callK.of (regIs _ c k o.b) ?_
 rintro _ Hz ⟨rfl, hz⟩
 subst Hz
 simp [h0, h6, h10, h15, h20, h25, h32, h39, h46, h47, h48, h49, h50]
 refine callK.of (regIs _ c k o.c) ?_
 rintro _ Hz ⟨rfl, hz⟩
 subst Hz
 simp [h0, h6, h10, h15, h20, h25, h32, h39, h46, h47, h48, h49, h50]
 refine hK3 _ _ ?_
 try clear hK3 K3
 refine T_sr fun K53 hK53 => ?_
 simp [h0, h6, h10, h15, h20, h25, h32, h39, h46, h47, h48, h49, h50]
 refine hK53 _ _ ?_
 try clear hK53 K53
 refine T_ret ?_
 try simp only [tR, bR, lR]
 exact owes_one (.inr rfl) hwf rfl (by rw [show mayO k o = false from by simp only [mayO, if_neg h0, if_neg h6, if_neg h10, if_neg h15, if_neg h20, if_neg h25, if_neg h32, if_neg h39, if_pos h46, if_pos h47, if_pos h48, if_pos h49, if_neg h50]] <;> simp [h0, h6, h10, h15, h20, h25, h32, h39, h46, h47, h48, h49, h50]) (by simp (maxDischargeDepth := 20)) (by simp) (by simp)
 refine T_rg ?_
 simp [h0, h6, h10, h15, h20, h25, h32, h39, h46, h47, h48, h49]
 refine callK.of (regIs _ c k o.a) ?_
 rintro _ Hz ⟨rfl, hz⟩
 subst Hz
 simp [h0, h6, h10, h15, h20, h25, h32, h39, h46, h47, h48, h49]
 refine callK.of (regIs _ c k o.b) ?_
 rintro _ Hz ⟨rfl, hz⟩
 subst Hz
 simp [h0, h6, h10, h15, h20, h25, h32, h39, h46, h47, h48, h49]
 refine callK.of (regIs _ c k o.c) ?_
 rintro _ Hz ⟨rfl, hz⟩
 subst Hz
 simp [h0, h6, h10, h15, h20, h25, h32, h39, h46, h47, h48, h49]
 refine hK3 _ _ ?_
 try clear hK3 K3
 refine T_sr fun K54 hK54 => ?_
 simp [h0, h6, h10, h15, h20, h25, h32, h39, h46, h47, h48, h49]
 refine hK54 _ _ ?_
 try clear hK54 K54
 refine T_ret ?_
 try simp only [tR, bR, lR]
 exact owes_one (.inr rfl) hwf rfl (by rw [show mayO k o = false from by simp only [mayO, if_neg h0, if_neg h6, if_neg h10, if_neg h15, if_neg h20, if_neg h25, if_neg h32, if_neg h39, if_pos h46, if_pos h47, if_pos h48, if_neg h49]] <;> simp [h0, h6, h10, h15, h20, h25, h32, h39, h46, h47, h48, h49]) (by simp (maxDischargeDepth := 20)) (by simp) (by simp)
 refine T_rg ?_
 simp [h0, h6, h10, h15, h20, h25, h32, h39, h46, h47, h48]
 refine callK.of (regIs _ c k o.a) ?_
 rintro _ Hz ⟨rfl, hz⟩
 subst Hz
 simp [h0, h6, h10, h15, h20, h25, h32, h39, h46, h47, h48]
 refine callK.of (regIs _ c k o.b) ?_
 rintro _ Hz ⟨rfl, hz⟩
 subst Hz
 simp [h0, h6, h10, h15, h20, h25, h32, h39, h46, h47, h48]
 refine hK3 _ _ ?_
 try clear hK3 K3
 refine T_sr fun K55 hK55 => ?_
 simp [h0, h6, h10, h15, h20, h25, h32, h39, h46, h47, h48]
 refine hK55 _ _ ?_
 try clear hK55 K55
 refine T_ret ?_
 try simp only [tR, bR, lR]
 exact owes_one (.inr rfl) hwf rfl (by rw [show mayO k o = false from by simp only [mayO, if_neg h0, if_neg h6, if_neg h10, if_neg h15, if_neg h20, if_neg h25, if_neg h32, if_neg h39, if_pos h46, if_pos h47, if_neg h48]] <;> simp [h0, h6, h10, h15, h20, h25, h32, h39, h46, h47, h48]) (by simp (maxDischargeDepth := 20)) (by simp) (by simp)
 refine T_rg ?_
 simp [h0, h6, h10, h15, h20, h25, h32, h39, h46, h47]
 refine callK.of (regIs _ c k o.a) ?_
 rintro _ Hz ⟨rfl, hz⟩
 subst Hz
 simp [h0, h6, h10, h15, h20, h25, h32, h39, h46, h47]
 refine hK3 _ _ ?_
 try clear hK3 K3
 refine T_sr fun K56 hK56 => ?_
 simp [h0, h6, h10, h15, h20, h25, h32, h39, h46, h47]
 refine hK56 _ _ ?_
 try clear hK56 K56
 refine T_ret ?_
 try simp only [tR, bR, lR]
 exact owes_one (.inr rfl) hwf rfl (by rw [show mayO k o = false from by simp only [mayO, if_neg h0, if_neg h6, if_neg h10, if_neg h15, if_neg h20, if_neg h25, if_neg h32, if_neg h39, if_pos h46, if_neg h47]] <;> simp [h0, h6, h10, h15, h20, h25, h32, h39, h46, h47]) (by simp (maxDischargeDepth := 20)) (by simp) (by simp)
 refine T_condF (by first | rfl | simp [h0, h6, h10, h15, h20, h25, h32, h39, h46]) ?_
 refine T_sr fun K57 hK57 => ?_
 simp [h0, h6, h10, h15, h20, h25, h32, h39, h46]
 refine hK57 _ _ ?_
 try clear hK57 K57
 by_cases h53 : o.code = 10
 refine T_condT (by first | rfl | simp [h0, h6, h10, h15, h20, h25, h32, h39, h46, h53]) ?_
 refine T_sr fun K58 hK58 => ?_
 simp [h0, h6, h10, h15, h20, h25, h32, h39, h46, h53]
 refine hK58 _ _ ?_
 try clear hK58 K58
 by_cases h54 : regB k o.a = true
 by_cases h55 : regB k o.b = true
 by_cases h56 : o.d = 15
 refine T_rg ?_
 simp [h0, h6, h10, h15, h20, h25, h32, h39, h46, h53, h54, h55, h56]
 refine callK.of (regIs _ c k o.a) ?_
 rintro _ Hz ⟨rfl, hz⟩
 subst Hz
 simp [h0, h6, h10, h15, h20, h25, h32, h39, h46, h53, h54, h55, h56]
 refine callK.of (regIs _ c k o.b) ?_
 rintro _ Hz ⟨rfl, hz⟩
 subst Hz
 simp [h0, h6, h10, h15, h20, h25, h32, h39, h46, h53, h54, h55, h56]
 refine hK3 _ _ ?_
 try clear hK3 K3
 refine T_sr fun K59 hK59 => ?_
 simp [h0, h6, h10, h15, h20, h25, h32, h39, h46, h53, h54, h55, h56]
 refine callK.of (zeroIs _ ({ a := false, b := false, c := true, d := false, bounds := true, value := true } : DNeed) ({ code := 10, a := o.a, b := o.b, c := o.c, d := 15, lo := o.lo, hi := o.hi, value := o.value } : DOp)) ?_
 rintro _ Hz ⟨rfl, hz⟩
 subst Hz
 simp [h0, h6, h10, h15, h20, h25, h32, h39, h46, h53, h54, h55, h56]
 refine hK59 _ _ ?_
 try clear hK59 K59
 refine T_ret ?_
 try simp only [tR, bR, lR]
 by_cases h57 : zeroB ({ a := false, b := false, c := true, d := false, bounds := true, value := true } : DNeed) ({ code := 10, a := o.a, b := o.b, c := o.c, d := 15, lo := o.lo, hi := o.hi, value := o.value } : DOp) = true
 exact owes_one (.inr rfl) hwf rfl (by rw [show mayO k o = true from by simp only [mayO, if_neg h0, if_neg h6, if_neg h10, if_neg h15, if_neg h20, if_neg h25, if_neg h32, if_neg h39, if_neg h46, if_pos h53, if_pos h54, if_pos h55, if_pos h56, if_pos h57]] <;> simp [h0, h6, h10, h15, h20, h25, h32, h39, h46, h53, h54, h55, h56, h57]) (by simp (maxDischargeDepth := 20)) (by simp) (by simp)
 exact owes_one (.inr rfl) hwf rfl (by rw [show mayO k o = false from by simp only [mayO, if_neg h0, if_neg h6, if_neg h10, if_neg h15, if_neg h20, if_neg h25, if_neg h32, if_neg h39, if_neg h46, if_pos h53, if_pos h54, if_pos h55, if_pos h56, if_neg h57]] <;> simp [h0, h6, h10, h15, h20, h25, h32, h39, h46, h53, h54, h55, h56, h57]) (by simp (maxDischargeDepth := 20)) (by simp) (by simp)
 refine T_rg ?_
 simp [h0, h6, h10, h15, h20, h25, h32, h39, h46, h53, h54, h55, h56]
 refine callK.of (regIs _ c k o.a) ?_
 rintro _ Hz ⟨rfl, hz⟩
 subst Hz
 simp [h0, h6, h10, h15, h20, h25, h32, h39, h46, h53, h54, h55, h56]
 refine callK.of (regIs _ c k o.b) ?_
 rintro _ Hz ⟨rfl, hz⟩
 subst Hz
 simp [h0, h6, h10, h15, h20, h25, h32, h39, h46, h53, h54, h55, h56]
 refine hK3 _ _ ?_
 try clear hK3 K3
 refine T_seqk fun K60 hK60 => ?_
 by_cases h58 : o.d = 16
 refine T_rg ?_
 simp [h0, h6, h10, h15, h20, h25, h32, h39, h46, h53, h54, h55, h56, h58]
 refine callK.of (zeroIs _ ({ a := false, b := false, c := true, d := false, bounds := true, value := true } : DNeed) ({ code := 10, a := o.a, b := o.b, c := o.c, d := 16, lo := o.lo, hi := o.hi, value := o.value } : DOp)) ?_
 rintro _ Hz ⟨rfl, hz⟩
 subst Hz
 simp [h0, h6, h10, h15, h20, h25, h32, h39, h46, h53, h54, h55, h56, h58]
 refine hK60 _ _ ?_
 try clear hK60 K60
 refine T_ret ?_
 try simp only [tR, bR, lR]
 by_cases h59 : zeroB ({ a := false, b := false, c := true, d := false, bounds := true, value := true } : DNeed) ({ code := 10, a := o.a, b := o.b, c := o.c, d := 16, lo := o.lo, hi := o.hi, value := o.value } : DOp) = true
 exact owes_one (.inr rfl) hwf rfl (by rw [show mayO k o = true from by simp only [mayO, if_neg h0, if_neg h6, if_neg h10, if_neg h15, if_neg h20, if_neg h25, if_neg h32, if_neg h39, if_neg h46, if_pos h53, if_pos h54, if_pos h55, if_neg h56, if_pos h58, if_pos h59]] <;> simp [h0, h6, h10, h15, h20, h25, h32, h39, h46, h53, h54, h55, h56, h58, h59]) (by simp (maxDischargeDepth := 20)) (by simp) (by simp)
 exact owes_one (.inr rfl) hwf rfl (by rw [show mayO k o = false from by simp only [mayO, if_neg h0, if_neg h6, if_neg h10, if_neg h15, if_neg h20, if_neg h25, if_neg h32, if_neg h39, if_neg h46, if_pos h53, if_pos h54, if_pos h55, if_neg h56, if_pos h58, if_neg h59]] <;> simp [h0, h6, h10, h15, h20, h25, h32, h39, h46, h53, h54, h55, h56, h58, h59]) (by simp (maxDischargeDepth := 20)) (by simp) (by simp)
 refine T_rg ?_
 simp [h0, h6, h10, h15, h20, h25, h32, h39, h46, h53, h54, h55, h56, h58]
 refine hK60 _ _ ?_
 try clear hK60 K60
 refine T_ret ?_
 try simp only [tR, bR, lR]
 exact owes_one (.inr rfl) hwf rfl (by rw [show mayO k o = false from by simp only [mayO, if_neg h0, if_neg h6, if_neg h10, if_neg h15, if_neg h20, if_neg h25, if_neg h32, if_neg h39, if_neg h46, if_pos h53, if_pos h54, if_pos h55, if_neg h56, if_neg h58]] <;> simp [h0, h6, h10, h15, h20, h25, h32, h39, h46, h53, h54, h55, h56, h58]) (by simp (maxDischargeDepth := 20)) (by simp) (by simp)
 refine T_rg ?_
 simp [h0, h6, h10, h15, h20, h25, h32, h39, h46, h53, h54, h55]
 refine callK.of (regIs _ c k o.a) ?_
 rintro _ Hz ⟨rfl, hz⟩
 subst Hz
 simp [h0, h6, h10, h15, h20, h25, h32, h39, h46, h53, h54, h55]
 refine callK.of (regIs _ c k o.b) ?_
 rintro _ Hz ⟨rfl, hz⟩
 subst Hz
 simp [h0, h6, h10, h15, h20, h25, h32, h39, h46, h53, h54, h55]
 refine hK3 _ _ ?_
 try clear hK3 K3
 refine T_sr fun K61 hK61 => ?_
 simp [h0, h6, h10, h15, h20, h25, h32, h39, h46, h53, h54, h55]
 refine hK61 _ _ ?_
 try clear hK61 K61
 refine T_ret ?_
 try simp only [tR, bR, lR]
 exact owes_one (.inr rfl) hwf rfl (by rw [show mayO k o = false from by simp only [mayO, if_neg h0, if_neg h6, if_neg h10, if_neg h15, if_neg h20, if_neg h25, if_neg h32, if_neg h39, if_neg h46, if_pos h53, if_pos h54, if_neg h55]] <;> simp [h0, h6, h10, h15, h20, h25, h32, h39, h46, h53, h54, h55]) (by simp (maxDischargeDepth := 20)) (by simp) (by simp)
 refine T_rg ?_
 simp [h0, h6, h10, h15, h20, h25, h32, h39, h46, h53, h54]
 refine callK.of (regIs _ c k o.a) ?_
 rintro _ Hz ⟨rfl, hz⟩
 subst Hz
 simp [h0, h6, h10, h15, h20, h25, h32, h39, h46, h53, h54]
 refine hK3 _ _ ?_
 try clear hK3 K3
 refine T_sr fun K62 hK62 => ?_
 simp [h0, h6, h10, h15, h20, h25, h32, h39, h46, h53, h54]
 refine hK62 _ _ ?_
 try clear hK62 K62
 refine T_ret ?_
 try simp only [tR, bR, lR]
 exact owes_one (.inr rfl) hwf rfl (by rw [show mayO k o = false from by simp only [mayO, if_neg h0, if_neg h6, if_neg h10, if_neg h15, if_neg h20, if_neg h25, if_neg h32, if_neg h39, if_neg h46, if_pos h53, if_neg h54]] <;> simp [h0, h6, h10, h15, h20, h25, h32, h39, h46, h53, h54]) (by simp (maxDischargeDepth := 20)) (by simp) (by simp)
 refine T_condF (by first | rfl | simp [h0, h6, h10, h15, h20, h25, h32, h39, h46, h53]) ?_
 refine T_sr fun K63 hK63 => ?_
 simp [h0, h6, h10, h15, h20, h25, h32, h39, h46, h53]
 refine hK63 _ _ ?_
 try clear hK63 K63
 by_cases h60 : o.code = 11
 refine T_condT (by first | rfl | simp [h0, h6, h10, h15, h20, h25, h32, h39, h46, h53, h60]) ?_
 refine T_sr fun K64 hK64 => ?_
 simp [h0, h6, h10, h15, h20, h25, h32, h39, h46, h53, h60]
 refine hK64 _ _ ?_
 try clear hK64 K64
 by_cases h61 : regB k o.a = true
 by_cases h62 : regB k o.b = true
 by_cases h63 : 1 ≤ o.d
 refine T_rg ?_
 simp [h0, h6, h10, h15, h20, h25, h32, h39, h46, h53, h60, h61, h62, h63]
 refine callK.of (regIs _ c k o.a) ?_
 rintro _ Hz ⟨rfl, hz⟩
 subst Hz
 simp [h0, h6, h10, h15, h20, h25, h32, h39, h46, h53, h60, h61, h62, h63]
 refine callK.of (regIs _ c k o.b) ?_
 rintro _ Hz ⟨rfl, hz⟩
 subst Hz
 simp [h0, h6, h10, h15, h20, h25, h32, h39, h46, h53, h60, h61, h62, h63]
 refine hK3 _ _ ?_
 try clear hK3 K3
 refine T_seqk fun K65 hK65 => ?_
 by_cases h64 : o.d ≤ 19
 refine T_rg ?_
 simp [h0, h6, h10, h15, h20, h25, h32, h39, h46, h53, h60, h61, h62, h63, h64]
 refine callK.of (zeroIs _ ({ a := false, b := false, c := true, d := false, bounds := true, value := true } : DNeed) ({ code := 11, a := o.a, b := o.b, c := o.c, d := o.d, lo := o.lo, hi := o.hi, value := o.value } : DOp)) ?_
 rintro _ Hz ⟨rfl, hz⟩
 subst Hz
 simp [h0, h6, h10, h15, h20, h25, h32, h39, h46, h53, h60, h61, h62, h63, h64]
 refine hK65 _ _ ?_
 try clear hK65 K65
 refine T_ret ?_
 try simp only [tR, bR, lR]
 by_cases h65 : zeroB ({ a := false, b := false, c := true, d := false, bounds := true, value := true } : DNeed) ({ code := 11, a := o.a, b := o.b, c := o.c, d := o.d, lo := o.lo, hi := o.hi, value := o.value } : DOp) = true
 exact owes_one (.inr rfl) hwf rfl (by rw [show mayO k o = true from by simp only [mayO, if_neg h0, if_neg h6, if_neg h10, if_neg h15, if_neg h20, if_neg h25, if_neg h32, if_neg h39, if_neg h46, if_neg h53, if_pos h60, if_pos h61, if_pos h62, if_pos h63, if_pos h64, if_pos h65]] <;> simp [h0, h6, h10, h15, h20, h25, h32, h39, h46, h53, h60, h61, h62, h63, h64, h65]) (by simp (maxDischargeDepth := 20)) (by simp) (by simp)
 exact owes_one (.inr rfl) hwf rfl (by rw [show mayO k o = false from by simp only [mayO, if_neg h0, if_neg h6, if_neg h10, if_neg h15, if_neg h20, if_neg h25, if_neg h32, if_neg h39, if_neg h46, if_neg h53, if_pos h60, if_pos h61, if_pos h62, if_pos h63, if_pos h64, if_neg h65]] <;> simp [h0, h6, h10, h15, h20, h25, h32, h39, h46, h53, h60, h61, h62, h63, h64, h65]) (by simp (maxDischargeDepth := 20)) (by simp) (by simp)
 refine T_rg ?_
 simp [h0, h6, h10, h15, h20, h25, h32, h39, h46, h53, h60, h61, h62, h63, h64]
 refine hK65 _ _ ?_
 try clear hK65 K65
 refine T_ret ?_
 try simp only [tR, bR, lR]
 exact owes_one (.inr rfl) hwf rfl (by rw [show mayO k o = false from by simp only [mayO, if_neg h0, if_neg h6, if_neg h10, if_neg h15, if_neg h20, if_neg h25, if_neg h32, if_neg h39, if_neg h46, if_neg h53, if_pos h60, if_pos h61, if_pos h62, if_pos h63, if_neg h64]] <;> simp [h0, h6, h10, h15, h20, h25, h32, h39, h46, h53, h60, h61, h62, h63, h64]) (by simp (maxDischargeDepth := 20)) (by simp) (by simp)
 refine T_rg ?_
 simp [h0, h6, h10, h15, h20, h25, h32, h39, h46, h53, h60, h61, h62, h63]
 refine callK.of (regIs _ c k o.a) ?_
 rintro _ Hz ⟨rfl, hz⟩
 subst Hz
 simp [h0, h6, h10, h15, h20, h25, h32, h39, h46, h53, h60, h61, h62, h63]
 refine callK.of (regIs _ c k o.b) ?_
 rintro _ Hz ⟨rfl, hz⟩
 subst Hz
 simp [h0, h6, h10, h15, h20, h25, h32, h39, h46, h53, h60, h61, h62, h63]
 refine hK3 _ _ ?_
 try clear hK3 K3
 refine T_sr fun K66 hK66 => ?_
 simp [h0, h6, h10, h15, h20, h25, h32, h39, h46, h53, h60, h61, h62, h63]
 refine hK66 _ _ ?_
 try clear hK66 K66
 refine T_ret ?_
 try simp only [tR, bR, lR]
 exact owes_one (.inr rfl) hwf rfl (by rw [show mayO k o = false from by simp only [mayO, if_neg h0, if_neg h6, if_neg h10, if_neg h15, if_neg h20, if_neg h25, if_neg h32, if_neg h39, if_neg h46, if_neg h53, if_pos h60, if_pos h61, if_pos h62, if_neg h63]] <;> simp [h0, h6, h10, h15, h20, h25, h32, h39, h46, h53, h60, h61, h62, h63]) (by simp (maxDischargeDepth := 20)) (by simp) (by simp)
 refine T_rg ?_
 simp [h0, h6, h10, h15, h20, h25, h32, h39, h46, h53, h60, h61, h62]
 refine callK.of (regIs _ c k o.a) ?_
 rintro _ Hz ⟨rfl, hz⟩
 subst Hz
 simp [h0, h6, h10, h15, h20, h25, h32, h39, h46, h53, h60, h61, h62]
 refine callK.of (regIs _ c k o.b) ?_
 rintro _ Hz ⟨rfl, hz⟩
 subst Hz
 simp [h0, h6, h10, h15, h20, h25, h32, h39, h46, h53, h60, h61, h62]
 refine hK3 _ _ ?_
 try clear hK3 K3
 refine T_sr fun K67 hK67 => ?_
 simp [h0, h6, h10, h15, h20, h25, h32, h39, h46, h53, h60, h61, h62]
 refine hK67 _ _ ?_
 try clear hK67 K67
 refine T_ret ?_
 try simp only [tR, bR, lR]
 exact owes_one (.inr rfl) hwf rfl (by rw [show mayO k o = false from by simp only [mayO, if_neg h0, if_neg h6, if_neg h10, if_neg h15, if_neg h20, if_neg h25, if_neg h32, if_neg h39, if_neg h46, if_neg h53, if_pos h60, if_pos h61, if_neg h62]] <;> simp [h0, h6, h10, h15, h20, h25, h32, h39, h46, h53, h60, h61, h62]) (by simp (maxDischargeDepth := 20)) (by simp) (by simp)
 refine T_rg ?_
 simp [h0, h6, h10, h15, h20, h25, h32, h39, h46, h53, h60, h61]
 refine callK.of (regIs _ c k o.a) ?_
 rintro _ Hz ⟨rfl, hz⟩
 subst Hz
 simp [h0, h6, h10, h15, h20, h25, h32, h39, h46, h53, h60, h61]
 refine hK3 _ _ ?_
 try clear hK3 K3
 refine T_sr fun K68 hK68 => ?_
 simp [h0, h6, h10, h15, h20, h25, h32, h39, h46, h53, h60, h61]
 refine hK68 _ _ ?_
 try clear hK68 K68
 refine T_ret ?_
 try simp only [tR, bR, lR]
 exact owes_one (.inr rfl) hwf rfl (by rw [show mayO k o = false from by simp only [mayO, if_neg h0, if_neg h6, if_neg h10, if_neg h15, if_neg h20, if_neg h25, if_neg h32, if_neg h39, if_neg h46, if_neg h53, if_pos h60, if_neg h61]] <;> simp [h0, h6, h10, h15, h20, h25, h32, h39, h46, h53, h60, h61]) (by simp (maxDischargeDepth := 20)) (by simp) (by simp)
 refine T_condF (by first | rfl | simp [h0, h6, h10, h15, h20, h25, h32, h39, h46, h53, h60]) ?_
 refine T_sr fun K69 hK69 => ?_
 simp [h0, h6, h10, h15, h20, h25, h32, h39, h46, h53, h60]
 refine hK69 _ _ ?_
 try clear hK69 K69
 by_cases h66 : o.code = 12
 refine T_condT (by first | rfl | simp [h0, h6, h10, h15, h20, h25, h32, h39, h46, h53, h60, h66]) ?_
 refine T_sr fun K70 hK70 => ?_
 simp [h0, h6, h10, h15, h20, h25, h32, h39, h46, h53, h60, h66]
 refine hK70 _ _ ?_
 try clear hK70 K70
 refine T_rg ?_
 simp [h0, h6, h10, h15, h20, h25, h32, h39, h46, h53, h60, h66]
 refine callK.of (regIs _ c k o.a) ?_
 rintro _ Hz ⟨rfl, hz⟩
 subst Hz
 simp [h0, h6, h10, h15, h20, h25, h32, h39, h46, h53, h60, h66]
 refine hK3 _ _ ?_
 try clear hK3 K3
 refine T_seqk fun K71 hK71 => ?_
 by_cases h67 : regB k o.a = true
 refine T_rg ?_
 simp [h0, h6, h10, h15, h20, h25, h32, h39, h46, h53, h60, h66, h67]
 refine callK.of (zeroIs _ ({ a := false, b := true, c := true, d := true, bounds := true, value := true } : DNeed) ({ code := 12, a := o.a, b := o.b, c := o.c, d := o.d, lo := o.lo, hi := o.hi, value := o.value } : DOp)) ?_
 rintro _ Hz ⟨rfl, hz⟩
 subst Hz
 simp [h0, h6, h10, h15, h20, h25, h32, h39, h46, h53, h60, h66, h67]
 refine hK71 _ _ ?_
 try clear hK71 K71
 refine T_ret ?_
 try simp only [tR, bR, lR]
 by_cases h68 : zeroB ({ a := false, b := true, c := true, d := true, bounds := true, value := true } : DNeed) ({ code := 12, a := o.a, b := o.b, c := o.c, d := o.d, lo := o.lo, hi := o.hi, value := o.value } : DOp) = true
 exact owes_one (.inr rfl) hwf rfl (by rw [show mayO k o = true from by simp only [mayO, if_neg h0, if_neg h6, if_neg h10, if_neg h15, if_neg h20, if_neg h25, if_neg h32, if_neg h39, if_neg h46, if_neg h53, if_neg h60, if_pos h66, if_pos h67, if_pos h68]] <;> simp [h0, h6, h10, h15, h20, h25, h32, h39, h46, h53, h60, h66, h67, h68]) (by simp (maxDischargeDepth := 20)) (by simp) (by simp)
 exact owes_one (.inr rfl) hwf rfl (by rw [show mayO k o = false from by simp only [mayO, if_neg h0, if_neg h6, if_neg h10, if_neg h15, if_neg h20, if_neg h25, if_neg h32, if_neg h39, if_neg h46, if_neg h53, if_neg h60, if_pos h66, if_pos h67, if_neg h68]] <;> simp [h0, h6, h10, h15, h20, h25, h32, h39, h46, h53, h60, h66, h67, h68]) (by simp (maxDischargeDepth := 20)) (by simp) (by simp)
 refine T_rg ?_
 simp [h0, h6, h10, h15, h20, h25, h32, h39, h46, h53, h60, h66, h67]
 refine hK71 _ _ ?_
 try clear hK71 K71
 refine T_ret ?_
 try simp only [tR, bR, lR]
 exact owes_one (.inr rfl) hwf rfl (by rw [show mayO k o = false from by simp only [mayO, if_neg h0, if_neg h6, if_neg h10, if_neg h15, if_neg h20, if_neg h25, if_neg h32, if_neg h39, if_neg h46, if_neg h53, if_neg h60, if_pos h66, if_neg h67]] <;> simp [h0, h6, h10, h15, h20, h25, h32, h39, h46, h53, h60, h66, h67]) (by simp (maxDischargeDepth := 20)) (by simp) (by simp)
 refine T_condF (by first | rfl | simp [h0, h6, h10, h15, h20, h25, h32, h39, h46, h53, h60, h66]) ?_
 refine T_sr fun K72 hK72 => ?_
 simp [h0, h6, h10, h15, h20, h25, h32, h39, h46, h53, h60, h66]
 refine hK72 _ _ ?_
 try clear hK72 K72
 by_cases h69 : o.code = 13
 refine T_condT (by first | rfl | simp [h0, h6, h10, h15, h20, h25, h32, h39, h46, h53, h60, h66, h69]) ?_
 refine T_sr fun K73 hK73 => ?_
 simp [h0, h6, h10, h15, h20, h25, h32, h39, h46, h53, h60, h66, h69]
 refine hK73 _ _ ?_
 try clear hK73 K73
 by_cases h70 : regB k o.a = true
 by_cases h71 : numberB o.c 16 = true
 refine T_rg ?_
 simp [h0, h6, h10, h15, h20, h25, h32, h39, h46, h53, h60, h66, h69, h70, h71]
 refine callK.of (regIs _ c k o.a) ?_
 rintro _ Hz ⟨rfl, hz⟩
 subst Hz
 simp [h0, h6, h10, h15, h20, h25, h32, h39, h46, h53, h60, h66, h69, h70, h71]
 refine callK.of (numberIs _ o.c 16) ?_
 rintro _ Hz ⟨rfl, hz⟩
 subst Hz
 simp [h0, h6, h10, h15, h20, h25, h32, h39, h46, h53, h60, h66, h69, h70, h71]
 refine callK.of (numberIs _ o.d 255) ?_
 rintro _ Hz ⟨rfl, hz⟩
 subst Hz
 simp [h0, h6, h10, h15, h20, h25, h32, h39, h46, h53, h60, h66, h69, h70, h71]
 refine hK3 _ _ ?_
 try clear hK3 K3
 refine T_seqk fun K74 hK74 => ?_
 by_cases h72 : numberB o.d 255 = true
 refine T_rg ?_
 simp [h0, h6, h10, h15, h20, h25, h32, h39, h46, h53, h60, h66, h69, h70, h71, h72]
 refine callK.of (zeroIs _ ({ a := false, b := true, c := false, d := false, bounds := true, value := true } : DNeed) ({ code := 13, a := o.a, b := o.b, c := o.c, d := o.d, lo := o.lo, hi := o.hi, value := o.value } : DOp)) ?_
 rintro _ Hz ⟨rfl, hz⟩
 subst Hz
 simp [h0, h6, h10, h15, h20, h25, h32, h39, h46, h53, h60, h66, h69, h70, h71, h72]
 refine hK74 _ _ ?_
 try clear hK74 K74
 refine T_ret ?_
 try simp only [tR, bR, lR]
 by_cases h73 : zeroB ({ a := false, b := true, c := false, d := false, bounds := true, value := true } : DNeed) ({ code := 13, a := o.a, b := o.b, c := o.c, d := o.d, lo := o.lo, hi := o.hi, value := o.value } : DOp) = true
 exact owes_one (.inr rfl) hwf rfl (by rw [show mayO k o = true from by simp only [mayO, if_neg h0, if_neg h6, if_neg h10, if_neg h15, if_neg h20, if_neg h25, if_neg h32, if_neg h39, if_neg h46, if_neg h53, if_neg h60, if_neg h66, if_pos h69, if_pos h70, if_pos h71, if_pos h72, if_pos h73]] <;> simp [h0, h6, h10, h15, h20, h25, h32, h39, h46, h53, h60, h66, h69, h70, h71, h72, h73]) (by simp (maxDischargeDepth := 20)) (by simp) (by simp)
 exact owes_one (.inr rfl) hwf rfl (by rw [show mayO k o = false from by simp only [mayO, if_neg h0, if_neg h6, if_neg h10, if_neg h15, if_neg h20, if_neg h25, if_neg h32, if_neg h39, if_neg h46, if_neg h53, if_neg h60, if_neg h66, if_pos h69, if_pos h70, if_pos h71, if_pos h72, if_neg h73]] <;> simp [h0, h6, h10, h15, h20, h25, h32, h39, h46, h53, h60, h66, h69, h70, h71, h72, h73]) (by simp (maxDischargeDepth := 20)) (by simp) (by simp)
 refine T_rg ?_
 simp [h0, h6, h10, h15, h20, h25, h32, h39, h46, h53, h60, h66, h69, h70, h71, h72]
 refine hK74 _ _ ?_
 try clear hK74 K74
 refine T_ret ?_
 try simp only [tR, bR, lR]
 exact owes_one (.inr rfl) hwf rfl (by rw [show mayO k o = false from by simp only [mayO, if_neg h0, if_neg h6, if_neg h10, if_neg h15, if_neg h20, if_neg h25, if_neg h32, if_neg h39, if_neg h46, if_neg h53, if_neg h60, if_neg h66, if_pos h69, if_pos h70, if_pos h71, if_neg h72]] <;> simp [h0, h6, h10, h15, h20, h25, h32, h39, h46, h53, h60, h66, h69, h70, h71, h72]) (by simp (maxDischargeDepth := 20)) (by simp) (by simp)
 refine T_rg ?_
 simp [h0, h6, h10, h15, h20, h25, h32, h39, h46, h53, h60, h66, h69, h70, h71]
 refine callK.of (regIs _ c k o.a) ?_
 rintro _ Hz ⟨rfl, hz⟩
 subst Hz
 simp [h0, h6, h10, h15, h20, h25, h32, h39, h46, h53, h60, h66, h69, h70, h71]
 refine callK.of (numberIs _ o.c 16) ?_
 rintro _ Hz ⟨rfl, hz⟩
 subst Hz
 simp [h0, h6, h10, h15, h20, h25, h32, h39, h46, h53, h60, h66, h69, h70, h71]
 refine hK3 _ _ ?_
 try clear hK3 K3
 refine T_sr fun K75 hK75 => ?_
 simp [h0, h6, h10, h15, h20, h25, h32, h39, h46, h53, h60, h66, h69, h70, h71]
 refine hK75 _ _ ?_
 try clear hK75 K75
 refine T_ret ?_
 try simp only [tR, bR, lR]
 exact owes_one (.inr rfl) hwf rfl (by rw [show mayO k o = false from by simp only [mayO, if_neg h0, if_neg h6, if_neg h10, if_neg h15, if_neg h20, if_neg h25, if_neg h32, if_neg h39, if_neg h46, if_neg h53, if_neg h60, if_neg h66, if_pos h69, if_pos h70, if_neg h71]] <;> simp [h0, h6, h10, h15, h20, h25, h32, h39, h46, h53, h60, h66, h69, h70, h71]) (by simp (maxDischargeDepth := 20)) (by simp) (by simp)
 refine T_rg ?_
 simp [h0, h6, h10, h15, h20, h25, h32, h39, h46, h53, h60, h66, h69, h70]
 refine callK.of (regIs _ c k o.a) ?_
 rintro _ Hz ⟨rfl, hz⟩
 subst Hz
 simp [h0, h6, h10, h15, h20, h25, h32, h39, h46, h53, h60, h66, h69, h70]
 refine hK3 _ _ ?_
 try clear hK3 K3
 refine T_sr fun K76 hK76 => ?_
 simp [h0, h6, h10, h15, h20, h25, h32, h39, h46, h53, h60, h66, h69, h70]
 refine hK76 _ _ ?_
 try clear hK76 K76
 refine T_ret ?_
 try simp only [tR, bR, lR]
 exact owes_one (.inr rfl) hwf rfl (by rw [show mayO k o = false from by simp only [mayO, if_neg h0, if_neg h6, if_neg h10, if_neg h15, if_neg h20, if_neg h25, if_neg h32, if_neg h39, if_neg h46, if_neg h53, if_neg h60, if_neg h66, if_pos h69, if_neg h70]] <;> simp [h0, h6, h10, h15, h20, h25, h32, h39, h46, h53, h60, h66, h69, h70]) (by simp (maxDischargeDepth := 20)) (by simp) (by simp)
 refine T_condF (by first | rfl | simp [h0, h6, h10, h15, h20, h25, h32, h39, h46, h53, h60, h66, h69]) ?_
 refine T_sr fun K77 hK77 => ?_
 simp [h0, h6, h10, h15, h20, h25, h32, h39, h46, h53, h60, h66, h69]
 refine hK77 _ _ ?_
 try clear hK77 K77
 by_cases h74 : o.code = 14
 refine T_condT (by first | rfl | simp [h0, h6, h10, h15, h20, h25, h32, h39, h46, h53, h60, h66, h69, h74]) ?_
 refine T_sr fun K78 hK78 => ?_
 simp [h0, h6, h10, h15, h20, h25, h32, h39, h46, h53, h60, h66, h69, h74]
 refine hK78 _ _ ?_
 try clear hK78 K78
 by_cases h75 : regB k o.a = true
 refine T_rg ?_
 simp [h0, h6, h10, h15, h20, h25, h32, h39, h46, h53, h60, h66, h69, h74, h75]
 refine callK.of (regIs _ c k o.a) ?_
 rintro _ Hz ⟨rfl, hz⟩
 subst Hz
 simp [h0, h6, h10, h15, h20, h25, h32, h39, h46, h53, h60, h66, h69, h74, h75]
 refine hK3 _ _ ?_
 try clear hK3 K3
 refine T_seqk fun K79 hK79 => ?_
 by_cases h76 : o.lo ≤ o.hi
 refine T_rg ?_
 simp [h0, h6, h10, h15, h20, h25, h32, h39, h46, h53, h60, h66, h69, h74, h75, h76]
 refine callK.of (zeroIs _ ({ a := false, b := true, c := true, d := true, bounds := false, value := true } : DNeed) ({ code := 14, a := o.a, b := o.b, c := o.c, d := o.d, lo := o.lo, hi := o.hi, value := o.value } : DOp)) ?_
 rintro _ Hz ⟨rfl, hz⟩
 subst Hz
 simp [h0, h6, h10, h15, h20, h25, h32, h39, h46, h53, h60, h66, h69, h74, h75, h76]
 refine hK79 _ _ ?_
 try clear hK79 K79
 refine T_ret ?_
 try simp only [tR, bR, lR]
 by_cases h77 : zeroB ({ a := false, b := true, c := true, d := true, bounds := false, value := true } : DNeed) ({ code := 14, a := o.a, b := o.b, c := o.c, d := o.d, lo := o.lo, hi := o.hi, value := o.value } : DOp) = true
 exact owes_one (.inr rfl) hwf rfl (by rw [show mayO k o = true from by simp only [mayO, if_neg h0, if_neg h6, if_neg h10, if_neg h15, if_neg h20, if_neg h25, if_neg h32, if_neg h39, if_neg h46, if_neg h53, if_neg h60, if_neg h66, if_neg h69, if_pos h74, if_pos h75, if_pos h76, if_pos h77]] <;> simp [h0, h6, h10, h15, h20, h25, h32, h39, h46, h53, h60, h66, h69, h74, h75, h76, h77]) (by simp (maxDischargeDepth := 20)) (by simp) (by simp)
 exact owes_one (.inr rfl) hwf rfl (by rw [show mayO k o = false from by simp only [mayO, if_neg h0, if_neg h6, if_neg h10, if_neg h15, if_neg h20, if_neg h25, if_neg h32, if_neg h39, if_neg h46, if_neg h53, if_neg h60, if_neg h66, if_neg h69, if_pos h74, if_pos h75, if_pos h76, if_neg h77]] <;> simp [h0, h6, h10, h15, h20, h25, h32, h39, h46, h53, h60, h66, h69, h74, h75, h76, h77]) (by simp (maxDischargeDepth := 20)) (by simp) (by simp)
 refine T_rg ?_
 simp [h0, h6, h10, h15, h20, h25, h32, h39, h46, h53, h60, h66, h69, h74, h75, h76]
 refine hK79 _ _ ?_
 try clear hK79 K79
 refine T_ret ?_
 try simp only [tR, bR, lR]
 exact owes_one (.inr rfl) hwf rfl (by rw [show mayO k o = false from by simp only [mayO, if_neg h0, if_neg h6, if_neg h10, if_neg h15, if_neg h20, if_neg h25, if_neg h32, if_neg h39, if_neg h46, if_neg h53, if_neg h60, if_neg h66, if_neg h69, if_pos h74, if_pos h75, if_neg h76]] <;> simp [h0, h6, h10, h15, h20, h25, h32, h39, h46, h53, h60, h66, h69, h74, h75, h76]) (by simp (maxDischargeDepth := 20)) (by simp) (by simp)
 refine T_rg ?_
 simp [h0, h6, h10, h15, h20, h25, h32, h39, h46, h53, h60, h66, h69, h74, h75]
 refine callK.of (regIs _ c k o.a) ?_
 rintro _ Hz ⟨rfl, hz⟩
 subst Hz
 simp [h0, h6, h10, h15, h20, h25, h32, h39, h46, h53, h60, h66, h69, h74, h75]
 refine hK3 _ _ ?_
 try clear hK3 K3
 refine T_sr fun K80 hK80 => ?_
 simp [h0, h6, h10, h15, h20, h25, h32, h39, h46, h53, h60, h66, h69, h74, h75]
 refine hK80 _ _ ?_
 try clear hK80 K80
 refine T_ret ?_
 try simp only [tR, bR, lR]
 exact owes_one (.inr rfl) hwf rfl (by rw [show mayO k o = false from by simp only [mayO, if_neg h0, if_neg h6, if_neg h10, if_neg h15, if_neg h20, if_neg h25, if_neg h32, if_neg h39, if_neg h46, if_neg h53, if_neg h60, if_neg h66, if_neg h69, if_pos h74, if_neg h75]] <;> simp [h0, h6, h10, h15, h20, h25, h32, h39, h46, h53, h60, h66, h69, h74, h75]) (by simp (maxDischargeDepth := 20)) (by simp) (by simp)
 refine T_condF (by first | rfl | simp [h0, h6, h10, h15, h20, h25, h32, h39, h46, h53, h60, h66, h69, h74]) ?_
 refine T_sr fun K81 hK81 => ?_
 simp [h0, h6, h10, h15, h20, h25, h32, h39, h46, h53, h60, h66, h69, h74]
 refine hK81 _ _ ?_
 try clear hK81 K81
 by_cases h78 : o.code = 15
 refine T_condT (by first | rfl | simp [h0, h6, h10, h15, h20, h25, h32, h39, h46, h53, h60, h66, h69, h74, h78]) ?_
 refine T_sr fun K82 hK82 => ?_
 simp [h0, h6, h10, h15, h20, h25, h32, h39, h46, h53, h60, h66, h69, h74, h78]
 refine hK82 _ _ ?_
 try clear hK82 K82
 by_cases h79 : regB k o.a = true
 by_cases h80 : o.lo = 0
 refine T_rg ?_
 simp [h0, h6, h10, h15, h20, h25, h32, h39, h46, h53, h60, h66, h69, h74, h78, h79, h80]
 refine callK.of (regIs _ c k o.a) ?_
 rintro _ Hz ⟨rfl, hz⟩
 subst Hz
 simp [h0, h6, h10, h15, h20, h25, h32, h39, h46, h53, h60, h66, h69, h74, h78, h79, h80]
 refine callK.of (numberIs _ o.hi 254) ?_
 rintro _ Hz ⟨rfl, hz⟩
 subst Hz
 simp [h0, h6, h10, h15, h20, h25, h32, h39, h46, h53, h60, h66, h69, h74, h78, h79, h80]
 refine hK3 _ _ ?_
 try clear hK3 K3
 refine T_seqk fun K83 hK83 => ?_
 by_cases h81 : numberB o.hi 254 = true
 refine T_rg ?_
 simp [h0, h6, h10, h15, h20, h25, h32, h39, h46, h53, h60, h66, h69, h74, h78, h79, h80, h81]
 refine callK.of (zeroIs _ ({ a := false, b := true, c := true, d := true, bounds := false, value := true } : DNeed) ({ code := 15, a := o.a, b := o.b, c := o.c, d := o.d, lo := 0, hi := o.hi, value := o.value } : DOp)) ?_
 rintro _ Hz ⟨rfl, hz⟩
 subst Hz
 simp [h0, h6, h10, h15, h20, h25, h32, h39, h46, h53, h60, h66, h69, h74, h78, h79, h80, h81]
 refine hK83 _ _ ?_
 try clear hK83 K83
 refine T_ret ?_
 try simp only [tR, bR, lR]
 by_cases h82 : zeroB ({ a := false, b := true, c := true, d := true, bounds := false, value := true } : DNeed) ({ code := 15, a := o.a, b := o.b, c := o.c, d := o.d, lo := 0, hi := o.hi, value := o.value } : DOp) = true
 exact owes_one (.inr rfl) hwf rfl (by rw [show mayO k o = true from by simp only [mayO, if_neg h0, if_neg h6, if_neg h10, if_neg h15, if_neg h20, if_neg h25, if_neg h32, if_neg h39, if_neg h46, if_neg h53, if_neg h60, if_neg h66, if_neg h69, if_neg h74, if_pos h78, if_pos h79, if_pos h80, if_pos h81, if_pos h82]] <;> simp [h0, h6, h10, h15, h20, h25, h32, h39, h46, h53, h60, h66, h69, h74, h78, h79, h80, h81, h82]) (by simp (maxDischargeDepth := 20)) (by simp) (by simp)
 exact owes_one (.inr rfl) hwf rfl (by rw [show mayO k o = false from by simp only [mayO, if_neg h0, if_neg h6, if_neg h10, if_neg h15, if_neg h20, if_neg h25, if_neg h32, if_neg h39, if_neg h46, if_neg h53, if_neg h60, if_neg h66, if_neg h69, if_neg h74, if_pos h78, if_pos h79, if_pos h80, if_pos h81, if_neg h82]] <;> simp [h0, h6, h10, h15, h20, h25, h32, h39, h46, h53, h60, h66, h69, h74, h78, h79, h80, h81, h82]) (by simp (maxDischargeDepth := 20)) (by simp) (by simp)
 refine T_rg ?_
 simp [h0, h6, h10, h15, h20, h25, h32, h39, h46, h53, h60, h66, h69, h74, h78, h79, h80, h81]
 refine hK83 _ _ ?_
 try clear hK83 K83
 refine T_ret ?_
 try simp only [tR, bR, lR]
 exact owes_one (.inr rfl) hwf rfl (by rw [show mayO k o = false from by simp only [mayO, if_neg h0, if_neg h6, if_neg h10, if_neg h15, if_neg h20, if_neg h25, if_neg h32, if_neg h39, if_neg h46, if_neg h53, if_neg h60, if_neg h66, if_neg h69, if_neg h74, if_pos h78, if_pos h79, if_pos h80, if_neg h81]] <;> simp [h0, h6, h10, h15, h20, h25, h32, h39, h46, h53, h60, h66, h69, h74, h78, h79, h80, h81]) (by simp (maxDischargeDepth := 20)) (by simp) (by simp)
 refine T_rg ?_
 simp [h0, h6, h10, h15, h20, h25, h32, h39, h46, h53, h60, h66, h69, h74, h78, h79, h80]
 refine callK.of (regIs _ c k o.a) ?_
 rintro _ Hz ⟨rfl, hz⟩
 subst Hz
 simp [h0, h6, h10, h15, h20, h25, h32, h39, h46, h53, h60, h66, h69, h74, h78, h79, h80]
 refine hK3 _ _ ?_
 try clear hK3 K3
 refine T_sr fun K84 hK84 => ?_
 simp [h0, h6, h10, h15, h20, h25, h32, h39, h46, h53, h60, h66, h69, h74, h78, h79, h80]
 refine hK84 _ _ ?_
 try clear hK84 K84
 refine T_ret ?_
 try simp only [tR, bR, lR]
 exact owes_one (.inr rfl) hwf rfl (by rw [show mayO k o = false from by simp only [mayO, if_neg h0, if_neg h6, if_neg h10, if_neg h15, if_neg h20, if_neg h25, if_neg h32, if_neg h39, if_neg h46, if_neg h53, if_neg h60, if_neg h66, if_neg h69, if_neg h74, if_pos h78, if_pos h79, if_neg h80]] <;> simp [h0, h6, h10, h15, h20, h25, h32, h39, h46, h53, h60, h66, h69, h74, h78, h79, h80]) (by simp (maxDischargeDepth := 20)) (by simp) (by simp)
 refine T_rg ?_
 simp [h0, h6, h10, h15, h20, h25, h32, h39, h46, h53, h60, h66, h69, h74, h78, h79]
 refine callK.of (regIs _ c k o.a) ?_
 rintro _ Hz ⟨rfl, hz⟩
 subst Hz
 simp [h0, h6, h10, h15, h20, h25, h32, h39, h46, h53, h60, h66, h69, h74, h78, h79]
 refine hK3 _ _ ?_
 try clear hK3 K3
 refine T_sr fun K85 hK85 => ?_
 simp [h0, h6, h10, h15, h20, h25, h32, h39, h46, h53, h60, h66, h69, h74, h78, h79]
 refine hK85 _ _ ?_
 try clear hK85 K85
 refine T_ret ?_
 try simp only [tR, bR, lR]
 exact owes_one (.inr rfl) hwf rfl (by rw [show mayO k o = false from by simp only [mayO, if_neg h0, if_neg h6, if_neg h10, if_neg h15, if_neg h20, if_neg h25, if_neg h32, if_neg h39, if_neg h46, if_neg h53, if_neg h60, if_neg h66, if_neg h69, if_neg h74, if_pos h78, if_neg h79]] <;> simp [h0, h6, h10, h15, h20, h25, h32, h39, h46, h53, h60, h66, h69, h74, h78, h79]) (by simp (maxDischargeDepth := 20)) (by simp) (by simp)
 refine T_condF (by first | rfl | simp [h0, h6, h10, h15, h20, h25, h32, h39, h46, h53, h60, h66, h69, h74, h78]) ?_
 refine T_sr fun K86 hK86 => ?_
 simp [h0, h6, h10, h15, h20, h25, h32, h39, h46, h53, h60, h66, h69, h74, h78]
 refine callK.of (flowIs _ c k o) ?_
 rintro _ Hz ⟨rfl, hz⟩
 subst Hz
 simp [h0, h6, h10, h15, h20, h25, h32, h39, h46, h53, h60, h66, h69, h74, h78]
 refine hK86 _ _ ?_
 try clear hK86 K86
 refine T_ret ?_
 try simp only [tR, bR, lR]
 by_cases h83 : flowB k o = true
 exact owes_one (.inr rfl) hwf rfl (by rw [show mayO k o = true from by simp only [mayO, if_neg h0, if_neg h6, if_neg h10, if_neg h15, if_neg h20, if_neg h25, if_neg h32, if_neg h39, if_neg h46, if_neg h53, if_neg h60, if_neg h66, if_neg h69, if_neg h74, if_neg h78, if_pos h83]] <;> simp [h0, h6, h10, h15, h20, h25, h32, h39, h46, h53, h60, h66, h69, h74, h78, h83]) (by simp (maxDischargeDepth := 20)) (by simp) (by simp)
 exact owes_one (.inr rfl) hwf rfl (by rw [show mayO k o = false from by simp only [mayO, if_neg h0, if_neg h6, if_neg h10, if_neg h15, if_neg h20, if_neg h25, if_neg h32, if_neg h39, if_neg h46, if_neg h53, if_neg h60, if_neg h66, if_neg h69, if_neg h74, if_neg h78, if_neg h83]] <;> simp [h0, h6, h10, h15, h20, h25, h32, h39, h46, h53, h60, h66, h69, h74, h78, h83]) (by simp (maxDischargeDepth := 20)) (by simp) (by simp)
end Go.Abs
