/- Texts of ours, merged: the abstract layer, the walks over the loaded functions, the plain laws. -/
import Derived.Test.YtllgmpejmagndaaGreatDoorA6
namespace Go.Abs
open Go.Proofs
set_option autoImplicit false
set_option linter.all false
def ent (s : ByteArray) : Value × PV := (.string s, .agg [])
def memB (av : List ByteArray) (s : ByteArray) : Bool := av.any (fun x => decide (x = s))
theorem memB_iff {av : List ByteArray} {s : ByteArray} : memB av s = true ↔ s ∈ av := by unfold memB; simp
def addTo (av : List ByteArray) (s : ByteArray) : List ByteArray := if memB av s = true then av else av ++ [s]
theorem setMap_setBox (H : AS) (i id : Nat) (r : List (List PV)) (e : List (Value × PV)) : (H.setBox i r).setMap id e = (H.setMap id e).setBox i r := rfl
theorem setMap_bump (H : AS) (m id : Nat) (e : List (Value × PV)) : (H.bump m).setMap id e = (H.setMap id e).bump m := rfl
theorem ext_setBoxM {H H2 : AS} {id i : Nat} {e : List (Value × PV)} {rows : List (List PV)} (hi : H.next ≤ i) (h : (H.setMap id e).Ext H2) : (H.setMap id e).Ext (H2.setBox i rows) := AS.Ext.setBox (H1 := H.setMap id e) hi h
theorem setMap_self {H : AS} {id : Nat} {e : List (Value × PV)} (h : H.mp id = some e) : H.setMap id e = H := by
  cases H with
  | mk b m n c =>
    unfold AS.setMap
    simp only [AS.mk.injEq, true_and, and_true]
    funext i
    split
    · subst_vars; exact h.symm
    · rfl
theorem wf_setMap {H : AS} (hwf : WF H) {id : Nat} {e : List (Value × PV)} (h : H.mp id = some e) (av : List ByteArray) : WF (H.setMap id (av.map ent)) := by
 refine ⟨fun i rows hb => hwf.box i rows hb, fun i es hm => ?_⟩
 rw [setMap_mp] at hm
 split at hm
 subst_vars
 cases hm
 refine ⟨(hwf.mp _ _ h).1, fun x hx => ?_⟩
 obtain ⟨s, _, rfl⟩ := List.mem_map.1 hx
 show Below _ (PV.agg [])
 simp
 exact hwf.mp i es hm
theorem all_ent (av : List ByteArray) : (av.map ent).all (fun x => (strKey x.1).isSome) = true := by
 rw [List.all_eq_true]; intro x hx; obtain ⟨s, _, rfl⟩ := List.mem_map.1 hx; rfl
theorem key_ent (av : List ByteArray) (s : ByteArray) : (keyAt (av.map ent) s = none ∧ memB av s = false) ∨ ∃ i, keyAt (av.map ent) s = some i ∧ (av.map ent)[i]? = some (ent s) ∧ memB av s = true := by
  cases e : keyAt (av.map ent) s with
  | none =>
    refine .inl ⟨rfl, Bool.eq_false_iff.2 fun hm' => ?_⟩
    have hm := memB_iff.1 hm'
    unfold keyAt at e
    have := List.findIdx?_eq_none_iff.1 e (ent s) (List.mem_map.2 ⟨s, hm, rfl⟩)
    simp [ent, strKey] at this
  | some i =>
    unfold keyAt at e
    obtain ⟨hi, hp, -⟩ := List.findIdx?_eq_some_iff_getElem.1 e
    simp only [List.getElem_map, ent, strKey, decide_eq_true_eq, Option.some.injEq] at hp
    have hi' : i < av.length := by simpa using hi
    refine .inr ⟨i, rfl, ?_, memB_iff.2 (hp ▸ List.getElem_mem hi')⟩
    rw [List.getElem?_map, List.getElem?_eq_getElem hi', hp]; rfl
theorem strM {H : AS} {id : Nat} {av : List ByteArray} (h : H.mp id = some (av.map ent)) : strMap Tryz.prog H 86 (.map id) = some (id, av.map ent) := by
 have h1 : Tryz.prog.underlying 86 = some (.map 9 129) := by kernel_rfl
 have h2 : Tryz.prog.underlying 9 = some .string := by kernel_rfl
 unfold strMap
 rw [h1]; simp only [h2, h, all_ent]; rfl
theorem lookM {H : AS} {id : Nat} {av : List ByteArray} (h : H.mp id = some (av.map ent)) (s : ByteArray) : aLookup Tryz.prog H 86 (.map id) (.val (.string s)) true = some (.tuple [.agg [], pb (memB av s)]) := by
 have hz : zeroOk Tryz.prog 86 = true := by kernel_rfl
 have hm : missing Tryz.prog 86 = .agg [] := by kernel_rfl
 unfold aLookup
 rw [strM h]
 rcases key_ent av s with ⟨e, hn⟩ | ⟨i, e, hi, hn⟩
 simp [hz, e, hn, hm]
 rw [List.getElem?_map] at hi
 simp [hz, e, hn, hi, ent]
theorem updM {H : AS} {id : Nat} {av : List ByteArray} (h : H.mp id = some (av.map ent)) (s : ByteArray) : aMapUpdate Tryz.prog H 86 (.map id) (.val (.string s)) (.agg []) = some (H.setMap id ((addTo av s).map ent)) := by
 unfold aMapUpdate
 rw [strM h]
 rcases key_ent av s with ⟨e, hn⟩ | ⟨i, e, hi, hn⟩
 simp [e, addTo, hn, ent]
 simp only [e, addTo, if_pos hn, Option.some.injEq]
 congr 1
 apply List.ext_getElem?
 intro j
 by_cases hj : j = i
 subst hj; rw [hi]
 have := List.getElem?_eq_some_iff.1 hi
 obtain ⟨hl, -⟩ := this
 simp [List.getElem?_set, ent] at hl ⊢
 exact hl
 rw [List.getElem?_set_ne (Ne.symm hj)]
attribute [local simp ↓] put_at AF.ev_tmp ex_cons ex_nil ex_box ex_assign AF.ev_bool ex_fieldAddr ex_load ex_binOp AF.ev_int ex_move ex_guard ex_pick ex_call AF.ev_func ex_unOp ex_build AF.ev_string ex_extract ex_lookup ex_alloc ex_store ex_mapUpdate
attribute [local simp] abox frame0 nx2 nx3 nx2' bump_setBox setBox_setBox beq_bytes wrap_nn int_beq int_bne DVal.row DOp.row DLook.row DFlat.row DType.row DNeed.row DCell.row eq42 setMap_setBox setMap_bump ext_setBoxM aFieldAddr aload partOf aBin aBinV aUn aBuild aBuild.go splice aExtract aalloc astore AS.Ext.refl AS.Ext.bump AS.Ext.setBox AS.Ext.kill AS.Ext.setMap
def cellB (x : DCell) (av : List ByteArray) : Bool := if x.kind < 1 then false else if 20 < x.kind then false else if x.sub = true then (if integerB x.kind = true then (if x.hi < x.lo then false else if x.max < 0 then false else if 254 < x.max then false else if 0 < x.max then (if x.kind = 19 then (if (fitsT ({ kind := 19, sub := true, lo := x.lo, hi := x.hi, max := x.max, array := false, fr := 0, to := 0, block := ⟨#[]⟩ } : DType) x.init) = 0 then (if x.addr = ⟨#[]⟩ then (if x.dir = 0 then true else false) else if (addrR x.addr).2.2 = true then (if (addrR x.addr).2.1 = x.dir then (if (addrR x.addr).1 = (bitsN 19) then false else false) else false) else false) else false) else false) else if x.kind = 20 then (if eqv x.init.kind x.init.bits x.init.text 20 0 ⟨#[]⟩ = true then (if x.keep = true then false else if x.addr = ⟨#[]⟩ then (if x.dir = 0 then true else false) else if (addrR x.addr).2.2 = true then (if (addrR x.addr).2.1 = x.dir then (if (addrR x.addr).1 = (bitsN 20) then false else false) else false) else false) else false) else if (fitsT ({ kind := x.kind, sub := true, lo := x.lo, hi := x.hi, max := x.max, array := false, fr := 0, to := 0, block := ⟨#[]⟩ } : DType) x.init) = 0 then (if x.addr = ⟨#[]⟩ then (if x.dir = 0 then true else false) else if (addrR x.addr).2.2 = true then (if (addrR x.addr).2.1 = x.dir then (if (addrR x.addr).1 = (bitsN x.kind) then false else false) else false) else false) else false) else false) else if x.lo = 0 then (if x.hi = 0 then (if x.max < 0 then false else if 254 < x.max then false else if 0 < x.max then (if x.kind = 19 then (if (fitsT ({ kind := 19, sub := false, lo := 0, hi := 0, max := x.max, array := false, fr := 0, to := 0, block := ⟨#[]⟩ } : DType) x.init) = 0 then (if x.addr = ⟨#[]⟩ then (if x.dir = 0 then true else false) else if (addrR x.addr).2.2 = true then (if (addrR x.addr).2.1 = x.dir then (if (addrR x.addr).1 = (bitsN 19) then (if memB av x.addr = true then false else true) else false) else false) else false) else false) else false) else if x.kind = 20 then (if eqv x.init.kind x.init.bits x.init.text 20 0 ⟨#[]⟩ = true then (if x.keep = true then false else if x.addr = ⟨#[]⟩ then (if x.dir = 0 then true else false) else if (addrR x.addr).2.2 = true then (if (addrR x.addr).2.1 = x.dir then (if (addrR x.addr).1 = (bitsN 20) then (if memB av x.addr = true then false else true) else false) else false) else false) else false) else if (fitsT ({ kind := x.kind, sub := false, lo := 0, hi := 0, max := x.max, array := false, fr := 0, to := 0, block := ⟨#[]⟩ } : DType) x.init) = 0 then (if x.addr = ⟨#[]⟩ then (if x.dir = 0 then true else false) else if (addrR x.addr).2.2 = true then (if (addrR x.addr).2.1 = x.dir then (if (addrR x.addr).1 = (bitsN x.kind) then (if memB av x.addr = true then false else true) else false) else false) else false) else false) else false) else false
set_option maxRecDepth 100000 in
set_option maxHeartbeats 4000000 in
theorem cellIsB (H : AS)  (x : DCell) (id : Nat) (av : List ByteArray) (hm : H.mp id = some (av.map ent)) (hs : x.addr.size ≤ 281474976710656) : ACalls Tryz.prog 36 [.agg x.row, .map id] H fun q H' => (q = pb (cellB x av) ∧ ∃ av' : List ByteArray, H' = H.setMap id (av'.map ent) ∧ (cellB x av = true → av' = if x.addr = ⟨#[]⟩ then av else addTo av x.addr)) := by
 refine ACalls_intro Tryz.func36 rfl (by kernel_rfl) (by simp) fun hwf hbel => ?_
 have hlk : ∀ (H1 : AS) (s : ByteArray), H1.mp id = some (av.map ent) → aLookup Tryz.prog H1 86 (.map id) (.val (.string s)) true = some (.tuple [.agg [], pb (memB av s)]) := fun H1 s h => lookM h s
 have hup : ∀ (H1 : AS) (s : ByteArray), H1.mp id = some (av.map ent) → aMapUpdate Tryz.prog H1 86 (.map id) (.val (.string s)) (.agg []) = some (H1.setMap id ((addTo av s).map ent)) := fun H1 s h => updM h s
 refine T_sr fun K0 hK0 => ?_
 simp [hm, hlk, hup]
 refine hK0 _ _ ?_
 try clear hK0 K0
 refine T_seqk fun K1 hK1 => ?_
 refine T_seqk fun K2 hK2 => ?_
 by_cases h0 : x.kind < 1
 refine T_rg ?_
 simp [hm, hlk, hup, h0]
 refine hK2 _ _ ?_
 try clear hK2 K2
 refine T_condT (by first | rfl | simp [h0]) ?_
 refine T_sr fun K3 hK3 => ?_
 simp [hm, hlk, hup, h0]
 refine hK3 _ _ ?_
 try clear hK3 K3
 refine T_ret ?_
 try simp only [tR, bR, lR]
 have hcb : cellB x av = false := by
   simp only [cellB, if_pos h0]
 refine Owes.mono (k := fun r H'' => r = pb false ∧ H'' = H) (fun q H'' h => ⟨by rw [h.1, hcb], av, h.2.trans (setMap_self hm).symm, fun hc => by rw [hcb] at hc; cases hc⟩) ?_
 exact owes_one_at (H1 := H) (.inr rfl) (hwf) (Nat.le_refl _) rfl (by simp [h0]) (by simp (maxDischargeDepth := 20)) (by simp) (by simp)
 by_cases h1 : 20 < x.kind
 refine T_rg ?_
 simp [hm, hlk, hup, h0, h1]
 refine hK2 _ _ ?_
 try clear hK2 K2
 refine T_condT (by first | rfl | simp [h0, h1]) ?_
 refine T_sr fun K4 hK4 => ?_
 simp [hm, hlk, hup, h0, h1]
 refine hK4 _ _ ?_
 try clear hK4 K4
 refine T_ret ?_
 try simp only [tR, bR, lR]
 have hcb : cellB x av = false := by
   simp only [cellB, if_neg h0, if_pos h1]
 refine Owes.mono (k := fun r H'' => r = pb false ∧ H'' = H) (fun q H'' h => ⟨by rw [h.1, hcb], av, h.2.trans (setMap_self hm).symm, fun hc => by rw [hcb] at hc; cases hc⟩) ?_
 exact owes_one_at (H1 := H) (.inr rfl) (hwf) (Nat.le_refl _) rfl (by simp [h0, h1]) (by simp (maxDischargeDepth := 20)) (by simp) (by simp)
 by_cases h2 : x.sub = true
 by_cases h3 : integerB x.kind = true
 refine T_rg ?_
 simp [hm, hlk, hup, h0, h1, h2, h3]
 refine callK.of (integerIs _ x.kind) ?_
 rintro _ Hz ⟨rfl, hz⟩
 subst Hz
 simp [hm, hlk, hup, h0, h1, h2, h3]
 refine hK2 _ _ ?_
 try clear hK2 K2
 by_cases h4 : x.hi < x.lo
 refine T_condT (by first | rfl | simp [h0, h1, h2, h3, h4]) ?_
 refine T_sr fun K5 hK5 => ?_
 simp [hm, hlk, hup, h0, h1, h2, h3, h4]
 refine hK5 _ _ ?_
 try clear hK5 K5
 refine T_ret ?_
 try simp only [tR, bR, lR]
 have hcb : cellB x av = false := by
   simp only [cellB, if_neg h0, if_neg h1, if_pos h2, if_pos h3, if_pos h4]
 refine Owes.mono (k := fun r H'' => r = pb false ∧ H'' = H) (fun q H'' h => ⟨by rw [h.1, hcb], av, h.2.trans (setMap_self hm).symm, fun hc => by rw [hcb] at hc; cases hc⟩) ?_
 exact owes_one_at (H1 := H) (.inr rfl) (hwf) (Nat.le_refl _) rfl (by simp [h0, h1, h2, h3, h4]) (by simp (maxDischargeDepth := 20)) (by simp) (by simp)
 refine T_condF (by first | rfl | simp [h0, h1, h2, h3, h4]) ?_
 refine T_skip ?_
 try simp only [tN, bN, lN]
 refine hK1 _ _ ?_
 try clear hK1 K1
 refine T_seqk fun K6 hK6 => ?_
 refine T_seqk fun K7 hK7 => ?_
 by_cases h5 : x.max < 0
 refine T_rg ?_
 simp [hm, hlk, hup, h0, h1, h2, h3, h4, h5]
 refine hK7 _ _ ?_
 try clear hK7 K7
 refine T_condT (by first | rfl | simp [h0, h1, h2, h3, h4, h5]) ?_
 refine T_sr fun K8 hK8 => ?_
 simp [hm, hlk, hup, h0, h1, h2, h3, h4, h5]
 refine hK8 _ _ ?_
 try clear hK8 K8
 refine T_ret ?_
 try simp only [tR, bR, lR]
 have hcb : cellB x av = false := by
   simp only [cellB, if_neg h0, if_neg h1, if_pos h2, if_pos h3, if_neg h4, if_pos h5]
 refine Owes.mono (k := fun r H'' => r = pb false ∧ H'' = H) (fun q H'' h => ⟨by rw [h.1, hcb], av, h.2.trans (setMap_self hm).symm, fun hc => by rw [hcb] at hc; cases hc⟩) ?_
 exact owes_one_at (H1 := H) (.inr rfl) (hwf) (Nat.le_refl _) rfl (by simp [h0, h1, h2, h3, h4, h5]) (by simp (maxDischargeDepth := 20)) (by simp) (by simp)
 by_cases h6 : 254 < x.max
 refine T_rg ?_
 simp [hm, hlk, hup, h0, h1, h2, h3, h4, h5, h6]
 refine hK7 _ _ ?_
 try clear hK7 K7
 refine T_condT (by first | rfl | simp [h0, h1, h2, h3, h4, h5, h6]) ?_
 refine T_sr fun K9 hK9 => ?_
 simp [hm, hlk, hup, h0, h1, h2, h3, h4, h5, h6]
 refine hK9 _ _ ?_
 try clear hK9 K9
 refine T_ret ?_
 try simp only [tR, bR, lR]
 have hcb : cellB x av = false := by
   simp only [cellB, if_neg h0, if_neg h1, if_pos h2, if_pos h3, if_neg h4, if_neg h5, if_pos h6]
 refine Owes.mono (k := fun r H'' => r = pb false ∧ H'' = H) (fun q H'' h => ⟨by rw [h.1, hcb], av, h.2.trans (setMap_self hm).symm, fun hc => by rw [hcb] at hc; cases hc⟩) ?_
 exact owes_one_at (H1 := H) (.inr rfl) (hwf) (Nat.le_refl _) rfl (by simp [h0, h1, h2, h3, h4, h5, h6]) (by simp (maxDischargeDepth := 20)) (by simp) (by simp)
 by_cases h7 : 0 < x.max
 refine T_rg ?_
 simp [hm, hlk, hup, h0, h1, h2, h3, h4, h5, h6, h7]
 refine hK7 _ _ ?_
 try clear hK7 K7
 by_cases h8 : x.kind = 19
 refine T_condF (by first | rfl | simp [h0, h1, h2, h3, h4, h5, h6, h7, h8]) ?_
 refine T_skip ?_
 try simp only [tN, bN, lN]
 refine hK6 _ _ ?_
 try clear hK6 K6
 refine T_seqk fun K10 hK10 => ?_
 refine T_sr fun K11 hK11 => ?_
 simp [hm, hlk, hup, h0, h1, h2, h3, h4, h5, h6, h7, h8]
 refine hK11 _ _ ?_
 try clear hK11 K11
 refine T_condF (by first | rfl | simp [h0, h1, h2, h3, h4, h5, h6, h7, h8]) ?_
 refine T_sr fun K12 hK12 => ?_
 simp [hm, hlk, hup, h0, h1, h2, h3, h4, h5, h6, h7, h8]
 refine callK.of (fitsTIs _ ({ kind := 19, sub := true, lo := x.lo, hi := x.hi, max := x.max, array := false, fr := 0, to := 0, block := ⟨#[]⟩ } : DType) x.init) ?_
 rintro _ Hz ⟨rfl, hz⟩
 subst Hz
 simp [hm, hlk, hup, h0, h1, h2, h3, h4, h5, h6, h7, h8]
 refine hK12 _ _ ?_
 try clear hK12 K12
 by_cases h9 : (fitsT ({ kind := 19, sub := true, lo := x.lo, hi := x.hi, max := x.max, array := false, fr := 0, to := 0, block := ⟨#[]⟩ } : DType) x.init) = 0
 refine T_condF (by first | rfl | simp [h0, h1, h2, h3, h4, h5, h6, h7, h8, h9]) ?_
 refine T_skip ?_
 try simp only [tN, bN, lN]
 refine hK10 _ _ ?_
 try clear hK10 K10
 refine T_seqk fun K13 hK13 => ?_
 refine T_sr fun K14 hK14 => ?_
 simp [hm, hlk, hup, h0, h1, h2, h3, h4, h5, h6, h7, h8, h9]
 refine hK14 _ _ ?_
 try clear hK14 K14
 by_cases h10 : x.addr = ⟨#[]⟩
 refine T_condT (by first | rfl | simp [h0, h1, h2, h3, h4, h5, h6, h7, h8, h9, h10]) ?_
 refine T_sr fun K15 hK15 => ?_
 simp [hm, hlk, hup, h0, h1, h2, h3, h4, h5, h6, h7, h8, h9, h10]
 refine hK15 _ _ ?_
 try clear hK15 K15
 refine T_ret ?_
 try simp only [tR, bR, lR]
 by_cases h11 : x.dir = 0
 have hcb : cellB x av = true := by
   simp only [cellB, if_neg h0, if_neg h1, if_pos h2, if_pos h3, if_neg h4, if_neg h5, if_neg h6, if_pos h7, if_pos h8, if_pos h9, if_pos h10, if_pos h11]
 refine Owes.mono (k := fun r H'' => r = pb true ∧ H'' = H) (fun q H'' h => ⟨by rw [h.1, hcb], av, h.2.trans (setMap_self hm).symm, fun hc => (if_pos h10).symm⟩) ?_
 exact owes_one_at (H1 := H) (.inr rfl) (hwf) (Nat.le_refl _) rfl (by simp [h0, h1, h2, h3, h4, h5, h6, h7, h8, h9, h10, h11]) (by simp (maxDischargeDepth := 20)) (by simp) (by simp)
 have hcb : cellB x av = false := by
   simp only [cellB, if_neg h0, if_neg h1, if_pos h2, if_pos h3, if_neg h4, if_neg h5, if_neg h6, if_pos h7, if_pos h8, if_pos h9, if_pos h10, if_neg h11]
 refine Owes.mono (k := fun r H'' => r = pb false ∧ H'' = H) (fun q H'' h => ⟨by rw [h.1, hcb], av, h.2.trans (setMap_self hm).symm, fun hc => by rw [hcb] at hc; cases hc⟩) ?_
 exact owes_one_at (H1 := H) (.inr rfl) (hwf) (Nat.le_refl _) rfl (by simp [h0, h1, h2, h3, h4, h5, h6, h7, h8, h9, h10, h11]) (by simp (maxDischargeDepth := 20)) (by simp) (by simp)
 refine T_condF (by first | rfl | simp [h0, h1, h2, h3, h4, h5, h6, h7, h8, h9, h10]) ?_
 refine T_skip ?_
 try simp only [tN, bN, lN]
 refine hK13 _ _ ?_
 try clear hK13 K13
 refine T_sr fun K16 hK16 => ?_
 simp [hm, hlk, hup, h0, h1, h2, h3, h4, h5, h6, h7, h8, h9, h10]
 refine callK.of (isAddrIs _ x.addr hs) ?_
 rintro _ Hz ⟨rfl, hz⟩
 subst Hz
 simp [hm, hlk, hup, h0, h1, h2, h3, h4, h5, h6, h7, h8, h9, h10]
 refine hK16 _ _ ?_
 try clear hK16 K16
 refine T_sr fun K17 hK17 => ?_
 simp [hm, hlk, hup, h0, h1, h2, h3, h4, h5, h6, h7, h8, h9, h10]
 refine hK17 _ _ ?_
 try clear hK17 K17
 refine T_sr fun K18 hK18 => ?_
 simp [hm, hlk, hup, h0, h1, h2, h3, h4, h5, h6, h7, h8, h9, h10]
 refine hK18 _ _ ?_
 try clear hK18 K18
 refine T_seqk fun K19 hK19 => ?_
 by_cases h12 : (addrR x.addr).2.2 = true
 by_cases h13 : (addrR x.addr).2.1 = x.dir
 by_cases h14 : (addrR x.addr).1 = (bitsN 19)
 refine T_rg ?_
 simp [hm, hlk, hup, h0, h1, h2, h3, h4, h5, h6, h7, h8, h9, h10, h12, h13, h14]
 refine callK.of (bitsIs _ 19) ?_
 rintro _ Hz ⟨rfl, hz⟩
 subst Hz
 simp [hm, hlk, hup, h0, h1, h2, h3, h4, h5, h6, h7, h8, h9, h10, h12, h13, h14]
 refine hK19 _ _ ?_
 try clear hK19 K19
 refine T_ret ?_
 try simp only [tR, bR, lR]
 have hcb : cellB x av = false := by
   simp only [cellB, if_neg h0, if_neg h1, if_pos h2, if_pos h3, if_neg h4, if_neg h5, if_neg h6, if_pos h7, if_pos h8, if_pos h9, if_neg h10, if_pos h12, if_pos h13, if_pos h14]
 refine Owes.mono (k := fun r H'' => r = pb false ∧ H'' = H.setMap id ((addTo av x.addr).map ent)) (fun q H'' h => ⟨by rw [h.1, hcb], addTo av x.addr, h.2, fun hc => by rw [hcb] at hc; cases hc⟩) ?_
 exact owes_one_at (H1 := H.setMap id ((addTo av x.addr).map ent)) (.inr rfl) (wf_setMap hwf hm _) (Nat.le_refl _) rfl (by simp [h0, h1, h2, h3, h4, h5, h6, h7, h8, h9, h10, h12, h13, h14]) (by simp (maxDischargeDepth := 20)) (by simp) (by simp)
 refine T_rg ?_
 simp [hm, hlk, hup, h0, h1, h2, h3, h4, h5, h6, h7, h8, h9, h10, h12, h13, h14]
 refine callK.of (bitsIs _ 19) ?_
 rintro _ Hz ⟨rfl, hz⟩
 subst Hz
 simp [hm, hlk, hup, h0, h1, h2, h3, h4, h5, h6, h7, h8, h9, h10, h12, h13, h14]
 refine hK19 _ _ ?_
 try clear hK19 K19
 refine T_ret ?_
 try simp only [tR, bR, lR]
 have hcb : cellB x av = false := by
   simp only [cellB, if_neg h0, if_neg h1, if_pos h2, if_pos h3, if_neg h4, if_neg h5, if_neg h6, if_pos h7, if_pos h8, if_pos h9, if_neg h10, if_pos h12, if_pos h13, if_neg h14]
 refine Owes.mono (k := fun r H'' => r = pb false ∧ H'' = H.setMap id ((addTo av x.addr).map ent)) (fun q H'' h => ⟨by rw [h.1, hcb], addTo av x.addr, h.2, fun hc => by rw [hcb] at hc; cases hc⟩) ?_
 exact owes_one_at (H1 := H.setMap id ((addTo av x.addr).map ent)) (.inr rfl) (wf_setMap hwf hm _) (Nat.le_refl _) rfl (by simp [h0, h1, h2, h3, h4, h5, h6, h7, h8, h9, h10, h12, h13, h14]) (by simp (maxDischargeDepth := 20)) (by simp) (by simp)
 refine T_rg ?_
 simp [hm, hlk, hup, h0, h1, h2, h3, h4, h5, h6, h7, h8, h9, h10, h12, h13]
 refine hK19 _ _ ?_
 try clear hK19 K19
 refine T_ret ?_
 try simp only [tR, bR, lR]
 have hcb : cellB x av = false := by
   simp only [cellB, if_neg h0, if_neg h1, if_pos h2, if_pos h3, if_neg h4, if_neg h5, if_neg h6, if_pos h7, if_pos h8, if_pos h9, if_neg h10, if_pos h12, if_neg h13]
 refine Owes.mono (k := fun r H'' => r = pb false ∧ H'' = H.setMap id ((addTo av x.addr).map ent)) (fun q H'' h => ⟨by rw [h.1, hcb], addTo av x.addr, h.2, fun hc => by rw [hcb] at hc; cases hc⟩) ?_
 exact owes_one_at (H1 := H.setMap id ((addTo av x.addr).map ent)) (.inr rfl) (wf_setMap hwf hm _) (Nat.le_refl _) rfl (by simp [h0, h1, h2, h3, h4, h5, h6, h7, h8, h9, h10, h12, h13]) (by simp (maxDischargeDepth := 20)) (by simp) (by simp)
 refine T_rg ?_
 simp [hm, hlk, hup, h0, h1, h2, h3, h4, h5, h6, h7, h8, h9, h10, h12]
 refine hK19 _ _ ?_
 try clear hK19 K19
 refine T_ret ?_
 try simp only [tR, bR, lR]
 have hcb : cellB x av = false := by
   simp only [cellB, if_neg h0, if_neg h1, if_pos h2, if_pos h3, if_neg h4, if_neg h5, if_neg h6, if_pos h7, if_pos h8, if_pos h9, if_neg h10, if_neg h12]
 refine Owes.mono (k := fun r H'' => r = pb false ∧ H'' = H.setMap id ((addTo av x.addr).map ent)) (fun q H'' h => ⟨by rw [h.1, hcb], addTo av x.addr, h.2, fun hc => by rw [hcb] at hc; cases hc⟩) ?_
 exact owes_one_at (H1 := H.setMap id ((addTo av x.addr).map ent)) (.inr rfl) (wf_setMap hwf hm _) (Nat.le_refl _) rfl (by simp [h0, h1, h2, h3, h4, h5, h6, h7, h8, h9, h10, h12]) (by simp (maxDischargeDepth := 20)) (by simp) (by simp)
 refine T_condT (by first | rfl | simp [h0, h1, h2, h3, h4, h5, h6, h7, h8, h9]) ?_
 refine T_sr fun K20 hK20 => ?_
 simp [hm, hlk, hup, h0, h1, h2, h3, h4, h5, h6, h7, h8, h9]
 refine hK20 _ _ ?_
 try clear hK20 K20
 refine T_ret ?_
 try simp only [tR, bR, lR]
 have hcb : cellB x av = false := by
   simp only [cellB, if_neg h0, if_neg h1, if_pos h2, if_pos h3, if_neg h4, if_neg h5, if_neg h6, if_pos h7, if_pos h8, if_neg h9]
 refine Owes.mono (k := fun r H'' => r = pb false ∧ H'' = H) (fun q H'' h => ⟨by rw [h.1, hcb], av, h.2.trans (setMap_self hm).symm, fun hc => by rw [hcb] at hc; cases hc⟩) ?_
 exact owes_one_at (H1 := H) (.inr rfl) (hwf) (Nat.le_refl _) rfl (by simp [h0, h1, h2, h3, h4, h5, h6, h7, h8, h9]) (by simp (maxDischargeDepth := 20)) (by simp) (by simp)
 refine T_condT (by first | rfl | simp [h0, h1, h2, h3, h4, h5, h6, h7, h8]) ?_
 refine T_sr fun K21 hK21 => ?_
 simp [hm, hlk, hup, h0, h1, h2, h3, h4, h5, h6, h7, h8]
 refine hK21 _ _ ?_
 try clear hK21 K21
 refine T_ret ?_
 try simp only [tR, bR, lR]
 have hcb : cellB x av = false := by
   simp only [cellB, if_neg h0, if_neg h1, if_pos h2, if_pos h3, if_neg h4, if_neg h5, if_neg h6, if_pos h7, if_neg h8]
 refine Owes.mono (k := fun r H'' => r = pb false ∧ H'' = H) (fun q H'' h => ⟨by rw [h.1, hcb], av, h.2.trans (setMap_self hm).symm, fun hc => by rw [hcb] at hc; cases hc⟩) ?_
 exact owes_one_at (H1 := H) (.inr rfl) (hwf) (Nat.le_refl _) rfl (by simp [h0, h1, h2, h3, h4, h5, h6, h7, h8]) (by simp (maxDischargeDepth := 20)) (by simp) (by simp)
 refine T_rg ?_
 simp [hm, hlk, hup, h0, h1, h2, h3, h4, h5, h6, h7]
 refine hK7 _ _ ?_
 try clear hK7 K7
 refine T_condF (by first | rfl | simp [h0, h1, h2, h3, h4, h5, h6, h7]) ?_
 refine T_skip ?_
 try simp only [tN, bN, lN]
 refine hK6 _ _ ?_
 try clear hK6 K6
 refine T_seqk fun K22 hK22 => ?_
 refine T_sr fun K23 hK23 => ?_
 simp [hm, hlk, hup, h0, h1, h2, h3, h4, h5, h6, h7]
 refine hK23 _ _ ?_
 try clear hK23 K23
 by_cases h15 : x.kind = 20
 refine T_condT (by first | rfl | simp [h0, h1, h2, h3, h4, h5, h6, h7, h15]) ?_
 refine T_seqk fun K24 hK24 => ?_
 by_cases h16 : eqv x.init.kind x.init.bits x.init.text 20 0 ⟨#[]⟩ = true
 refine T_rg ?_
 simp [hm, hlk, hup, h0, h1, h2, h3, h4, h5, h6, h7, h15, h16]
 refine hK24 _ _ ?_
 try clear hK24 K24
 by_cases h17 : x.keep = true
 refine T_condT (by first | rfl | simp [h0, h1, h2, h3, h4, h5, h6, h7, h15, h16, h17]) ?_
 refine T_sr fun K25 hK25 => ?_
 simp [hm, hlk, hup, h0, h1, h2, h3, h4, h5, h6, h7, h15, h16, h17]
 refine hK25 _ _ ?_
 try clear hK25 K25
 refine T_ret ?_
 try simp only [tR, bR, lR]
 have hcb : cellB x av = false := by
   simp only [cellB, if_neg h0, if_neg h1, if_pos h2, if_pos h3, if_neg h4, if_neg h5, if_neg h6, if_neg h7, if_pos h15, if_pos h16, if_pos h17]
 refine Owes.mono (k := fun r H'' => r = pb false ∧ H'' = H) (fun q H'' h => ⟨by rw [h.1, hcb], av, h.2.trans (setMap_self hm).symm, fun hc => by rw [hcb] at hc; cases hc⟩) ?_
 exact owes_one_at (H1 := H) (.inr rfl) (hwf) (Nat.le_refl _) rfl (by simp [h0, h1, h2, h3, h4, h5, h6, h7, h15, h16, h17]) (by simp (maxDischargeDepth := 20)) (by simp) (by simp)
 refine T_condF (by first | rfl | simp [h0, h1, h2, h3, h4, h5, h6, h7, h15, h16, h17]) ?_
 refine T_skip ?_
 try simp only [tN, bN, lN]
 refine hK22 _ _ ?_
 try clear hK22 K22
 refine T_seqk fun K26 hK26 => ?_
 refine T_sr fun K27 hK27 => ?_
 simp [hm, hlk, hup, h0, h1, h2, h3, h4, h5, h6, h7, h15, h16, h17]
 refine hK27 _ _ ?_
 try clear hK27 K27
 by_cases h18 : x.addr = ⟨#[]⟩
 refine T_condT (by first | rfl | simp [h0, h1, h2, h3, h4, h5, h6, h7, h15, h16, h17, h18]) ?_
 refine T_sr fun K28 hK28 => ?_
 simp [hm, hlk, hup, h0, h1, h2, h3, h4, h5, h6, h7, h15, h16, h17, h18]
 refine hK28 _ _ ?_
 try clear hK28 K28
 refine T_ret ?_
 try simp only [tR, bR, lR]
 by_cases h19 : x.dir = 0
 have hcb : cellB x av = true := by
   simp only [cellB, if_neg h0, if_neg h1, if_pos h2, if_pos h3, if_neg h4, if_neg h5, if_neg h6, if_neg h7, if_pos h15, if_pos h16, if_neg h17, if_pos h18, if_pos h19]
 refine Owes.mono (k := fun r H'' => r = pb true ∧ H'' = H) (fun q H'' h => ⟨by rw [h.1, hcb], av, h.2.trans (setMap_self hm).symm, fun hc => (if_pos h18).symm⟩) ?_
 exact owes_one_at (H1 := H) (.inr rfl) (hwf) (Nat.le_refl _) rfl (by simp [h0, h1, h2, h3, h4, h5, h6, h7, h15, h16, h17, h18, h19]) (by simp (maxDischargeDepth := 20)) (by simp) (by simp)
 have hcb : cellB x av = false := by
   simp only [cellB, if_neg h0, if_neg h1, if_pos h2, if_pos h3, if_neg h4, if_neg h5, if_neg h6, if_neg h7, if_pos h15, if_pos h16, if_neg h17, if_pos h18, if_neg h19]
 refine Owes.mono (k := fun r H'' => r = pb false ∧ H'' = H) (fun q H'' h => ⟨by rw [h.1, hcb], av, h.2.trans (setMap_self hm).symm, fun hc => by rw [hcb] at hc; cases hc⟩) ?_
 exact owes_one_at (H1 := H) (.inr rfl) (hwf) (Nat.le_refl _) rfl (by simp [h0, h1, h2, h3, h4, h5, h6, h7, h15, h16, h17, h18, h19]) (by simp (maxDischargeDepth := 20)) (by simp) (by simp)
 refine T_condF (by first | rfl | simp [h0, h1, h2, h3, h4, h5, h6, h7, h15, h16, h17, h18]) ?_
 refine T_skip ?_
 try simp only [tN, bN, lN]
 refine hK26 _ _ ?_
 try clear hK26 K26
 refine T_sr fun K29 hK29 => ?_
 simp [hm, hlk, hup, h0, h1, h2, h3, h4, h5, h6, h7, h15, h16, h17, h18]
 refine callK.of (isAddrIs _ x.addr hs) ?_
 rintro _ Hz ⟨rfl, hz⟩
 subst Hz
 simp [hm, hlk, hup, h0, h1, h2, h3, h4, h5, h6, h7, h15, h16, h17, h18]
 refine hK29 _ _ ?_
 try clear hK29 K29
 refine T_sr fun K30 hK30 => ?_
 simp [hm, hlk, hup, h0, h1, h2, h3, h4, h5, h6, h7, h15, h16, h17, h18]
 refine hK30 _ _ ?_
 try clear hK30 K30
 refine T_sr fun K31 hK31 => ?_
 simp [hm, hlk, hup, h0, h1, h2, h3, h4, h5, h6, h7, h15, h16, h17, h18]
 refine hK31 _ _ ?_
 try clear hK31 K31
 refine T_seqk fun K32 hK32 => ?_
 by_cases h20 : (addrR x.addr).2.2 = true
 by_cases h21 : (addrR x.addr).2.1 = x.dir
 by_cases h22 : (addrR x.addr).1 = (bitsN 20)
 refine T_rg ?_
 simp [hm, hlk, hup, h0, h1, h2, h3, h4, h5, h6, h7, h15, h16, h17, h18, h20, h21, h22]
 refine callK.of (bitsIs _ 20) ?_
 rintro _ Hz ⟨rfl, hz⟩
 subst Hz
 simp [hm, hlk, hup, h0, h1, h2, h3, h4, h5, h6, h7, h15, h16, h17, h18, h20, h21, h22]
 refine hK32 _ _ ?_
 try clear hK32 K32
 refine T_ret ?_
 try simp only [tR, bR, lR]
 have hcb : cellB x av = false := by
   simp only [cellB, if_neg h0, if_neg h1, if_pos h2, if_pos h3, if_neg h4, if_neg h5, if_neg h6, if_neg h7, if_pos h15, if_pos h16, if_neg h17, if_neg h18, if_pos h20, if_pos h21, if_pos h22]
 refine Owes.mono (k := fun r H'' => r = pb false ∧ H'' = H.setMap id ((addTo av x.addr).map ent)) (fun q H'' h => ⟨by rw [h.1, hcb], addTo av x.addr, h.2, fun hc => by rw [hcb] at hc; cases hc⟩) ?_
 exact owes_one_at (H1 := H.setMap id ((addTo av x.addr).map ent)) (.inr rfl) (wf_setMap hwf hm _) (Nat.le_refl _) rfl (by simp [h0, h1, h2, h3, h4, h5, h6, h7, h15, h16, h17, h18, h20, h21, h22]) (by simp (maxDischargeDepth := 20)) (by simp) (by simp)
 refine T_rg ?_
 simp [hm, hlk, hup, h0, h1, h2, h3, h4, h5, h6, h7, h15, h16, h17, h18, h20, h21, h22]
 refine callK.of (bitsIs _ 20) ?_
 rintro _ Hz ⟨rfl, hz⟩
 subst Hz
 simp [hm, hlk, hup, h0, h1, h2, h3, h4, h5, h6, h7, h15, h16, h17, h18, h20, h21, h22]
 refine hK32 _ _ ?_
 try clear hK32 K32
 refine T_ret ?_
 try simp only [tR, bR, lR]
 have hcb : cellB x av = false := by
   simp only [cellB, if_neg h0, if_neg h1, if_pos h2, if_pos h3, if_neg h4, if_neg h5, if_neg h6, if_neg h7, if_pos h15, if_pos h16, if_neg h17, if_neg h18, if_pos h20, if_pos h21, if_neg h22]
 refine Owes.mono (k := fun r H'' => r = pb false ∧ H'' = H.setMap id ((addTo av x.addr).map ent)) (fun q H'' h => ⟨by rw [h.1, hcb], addTo av x.addr, h.2, fun hc => by rw [hcb] at hc; cases hc⟩) ?_
 exact owes_one_at (H1 := H.setMap id ((addTo av x.addr).map ent)) (.inr rfl) (wf_setMap hwf hm _) (Nat.le_refl _) rfl (by simp [h0, h1, h2, h3, h4, h5, h6, h7, h15, h16, h17, h18, h20, h21, h22]) (by simp (maxDischargeDepth := 20)) (by simp) (by simp)
 refine T_rg ?_
 simp [hm, hlk, hup, h0, h1, h2, h3, h4, h5, h6, h7, h15, h16, h17, h18, h20, h21]
 refine hK32 _ _ ?_
 try clear hK32 K32
 refine T_ret ?_
 try simp only [tR, bR, lR]
 have hcb : cellB x av = false := by
   simp only [cellB, if_neg h0, if_neg h1, if_pos h2, if_pos h3, if_neg h4, if_neg h5, if_neg h6, if_neg h7, if_pos h15, if_pos h16, if_neg h17, if_neg h18, if_pos h20, if_neg h21]
 refine Owes.mono (k := fun r H'' => r = pb false ∧ H'' = H.setMap id ((addTo av x.addr).map ent)) (fun q H'' h => ⟨by rw [h.1, hcb], addTo av x.addr, h.2, fun hc => by rw [hcb] at hc; cases hc⟩) ?_
 exact owes_one_at (H1 := H.setMap id ((addTo av x.addr).map ent)) (.inr rfl) (wf_setMap hwf hm _) (Nat.le_refl _) rfl (by simp [h0, h1, h2, h3, h4, h5, h6, h7, h15, h16, h17, h18, h20, h21]) (by simp (maxDischargeDepth := 20)) (by simp) (by simp)
 refine T_rg ?_
 simp [hm, hlk, hup, h0, h1, h2, h3, h4, h5, h6, h7, h15, h16, h17, h18, h20]
 refine hK32 _ _ ?_
 try clear hK32 K32
 refine T_ret ?_
 try simp only [tR, bR, lR]
 have hcb : cellB x av = false := by
   simp only [cellB, if_neg h0, if_neg h1, if_pos h2, if_pos h3, if_neg h4, if_neg h5, if_neg h6, if_neg h7, if_pos h15, if_pos h16, if_neg h17, if_neg h18, if_neg h20]
 refine Owes.mono (k := fun r H'' => r = pb false ∧ H'' = H.setMap id ((addTo av x.addr).map ent)) (fun q H'' h => ⟨by rw [h.1, hcb], addTo av x.addr, h.2, fun hc => by rw [hcb] at hc; cases hc⟩) ?_
 exact owes_one_at (H1 := H.setMap id ((addTo av x.addr).map ent)) (.inr rfl) (wf_setMap hwf hm _) (Nat.le_refl _) rfl (by simp [h0, h1, h2, h3, h4, h5, h6, h7, h15, h16, h17, h18, h20]) (by simp (maxDischargeDepth := 20)) (by simp) (by simp)
 refine T_rg ?_
 simp [hm, hlk, hup, h0, h1, h2, h3, h4, h5, h6, h7, h15, h16]
 refine hK24 _ _ ?_
 try clear hK24 K24
 refine T_condT (by first | rfl | simp [h0, h1, h2, h3, h4, h5, h6, h7, h15, h16]) ?_
 refine T_sr fun K33 hK33 => ?_
 simp [hm, hlk, hup, h0, h1, h2, h3, h4, h5, h6, h7, h15, h16]
 refine hK33 _ _ ?_
 try clear hK33 K33
 refine T_ret ?_
 try simp only [tR, bR, lR]
 have hcb : cellB x av = false := by
   simp only [cellB, if_neg h0, if_neg h1, if_pos h2, if_pos h3, if_neg h4, if_neg h5, if_neg h6, if_neg h7, if_pos h15, if_neg h16]
 refine Owes.mono (k := fun r H'' => r = pb false ∧ H'' = H) (fun q H'' h => ⟨by rw [h.1, hcb], av, h.2.trans (setMap_self hm).symm, fun hc => by rw [hcb] at hc; cases hc⟩) ?_
 exact owes_one_at (H1 := H) (.inr rfl) (hwf) (Nat.le_refl _) rfl (by simp [h0, h1, h2, h3, h4, h5, h6, h7, h15, h16]) (by simp (maxDischargeDepth := 20)) (by simp) (by simp)
 refine T_condF (by first | rfl | simp [h0, h1, h2, h3, h4, h5, h6, h7, h15]) ?_
 refine T_sr fun K34 hK34 => ?_
 simp [hm, hlk, hup, h0, h1, h2, h3, h4, h5, h6, h7, h15]
 refine callK.of (fitsTIs _ ({ kind := x.kind, sub := true, lo := x.lo, hi := x.hi, max := x.max, array := false, fr := 0, to := 0, block := ⟨#[]⟩ } : DType) x.init) ?_
 rintro _ Hz ⟨rfl, hz⟩
 subst Hz
 simp [hm, hlk, hup, h0, h1, h2, h3, h4, h5, h6, h7, h15]
 refine hK34 _ _ ?_
 try clear hK34 K34
 by_cases h23 : (fitsT ({ kind := x.kind, sub := true, lo := x.lo, hi := x.hi, max := x.max, array := false, fr := 0, to := 0, block := ⟨#[]⟩ } : DType) x.init) = 0
 refine T_condF (by first | rfl | simp [h0, h1, h2, h3, h4, h5, h6, h7, h15, h23]) ?_
 refine T_skip ?_
 try simp only [tN, bN, lN]
 refine hK22 _ _ ?_
 try clear hK22 K22
 refine T_seqk fun K35 hK35 => ?_
 refine T_sr fun K36 hK36 => ?_
 simp [hm, hlk, hup, h0, h1, h2, h3, h4, h5, h6, h7, h15, h23]
 refine hK36 _ _ ?_
 try clear hK36 K36
 by_cases h24 : x.addr = ⟨#[]⟩
 refine T_condT (by first | rfl | simp [h0, h1, h2, h3, h4, h5, h6, h7, h15, h23, h24]) ?_
 refine T_sr fun K37 hK37 => ?_
 simp [hm, hlk, hup, h0, h1, h2, h3, h4, h5, h6, h7, h15, h23, h24]
 refine hK37 _ _ ?_
 try clear hK37 K37
 refine T_ret ?_
 try simp only [tR, bR, lR]
 by_cases h25 : x.dir = 0
 have hcb : cellB x av = true := by
   simp only [cellB, if_neg h0, if_neg h1, if_pos h2, if_pos h3, if_neg h4, if_neg h5, if_neg h6, if_neg h7, if_neg h15, if_pos h23, if_pos h24, if_pos h25]
 refine Owes.mono (k := fun r H'' => r = pb true ∧ H'' = H) (fun q H'' h => ⟨by rw [h.1, hcb], av, h.2.trans (setMap_self hm).symm, fun hc => (if_pos h24).symm⟩) ?_
 exact owes_one_at (H1 := H) (.inr rfl) (hwf) (Nat.le_refl _) rfl (by simp [h0, h1, h2, h3, h4, h5, h6, h7, h15, h23, h24, h25]) (by simp (maxDischargeDepth := 20)) (by simp) (by simp)
 have hcb : cellB x av = false := by
   simp only [cellB, if_neg h0, if_neg h1, if_pos h2, if_pos h3, if_neg h4, if_neg h5, if_neg h6, if_neg h7, if_neg h15, if_pos h23, if_pos h24, if_neg h25]
 refine Owes.mono (k := fun r H'' => r = pb false ∧ H'' = H) (fun q H'' h => ⟨by rw [h.1, hcb], av, h.2.trans (setMap_self hm).symm, fun hc => by rw [hcb] at hc; cases hc⟩) ?_
 exact owes_one_at (H1 := H) (.inr rfl) (hwf) (Nat.le_refl _) rfl (by simp [h0, h1, h2, h3, h4, h5, h6, h7, h15, h23, h24, h25]) (by simp (maxDischargeDepth := 20)) (by simp) (by simp)
 refine T_condF (by first | rfl | simp [h0, h1, h2, h3, h4, h5, h6, h7, h15, h23, h24]) ?_
 refine T_skip ?_
 try simp only [tN, bN, lN]
 refine hK35 _ _ ?_
 try clear hK35 K35
 refine T_sr fun K38 hK38 => ?_
 simp [hm, hlk, hup, h0, h1, h2, h3, h4, h5, h6, h7, h15, h23, h24]
 refine callK.of (isAddrIs _ x.addr hs) ?_
 rintro _ Hz ⟨rfl, hz⟩
 subst Hz
 simp [hm, hlk, hup, h0, h1, h2, h3, h4, h5, h6, h7, h15, h23, h24]
 refine hK38 _ _ ?_
 try clear hK38 K38
 refine T_sr fun K39 hK39 => ?_
 simp [hm, hlk, hup, h0, h1, h2, h3, h4, h5, h6, h7, h15, h23, h24]
 refine hK39 _ _ ?_
 try clear hK39 K39
 refine T_sr fun K40 hK40 => ?_
 simp [hm, hlk, hup, h0, h1, h2, h3, h4, h5, h6, h7, h15, h23, h24]
 refine hK40 _ _ ?_
 try clear hK40 K40
 refine T_seqk fun K41 hK41 => ?_
 by_cases h26 : (addrR x.addr).2.2 = true
 by_cases h27 : (addrR x.addr).2.1 = x.dir
 by_cases h28 : (addrR x.addr).1 = (bitsN x.kind)
 refine T_rg ?_
 simp [hm, hlk, hup, h0, h1, h2, h3, h4, h5, h6, h7, h15, h23, h24, h26, h27, h28]
 refine callK.of (bitsIs _ x.kind) ?_
 rintro _ Hz ⟨rfl, hz⟩
 subst Hz
 simp [hm, hlk, hup, h0, h1, h2, h3, h4, h5, h6, h7, h15, h23, h24, h26, h27, h28]
 refine hK41 _ _ ?_
 try clear hK41 K41
 refine T_ret ?_
 try simp only [tR, bR, lR]
 have hcb : cellB x av = false := by
   simp only [cellB, if_neg h0, if_neg h1, if_pos h2, if_pos h3, if_neg h4, if_neg h5, if_neg h6, if_neg h7, if_neg h15, if_pos h23, if_neg h24, if_pos h26, if_pos h27, if_pos h28]
 refine Owes.mono (k := fun r H'' => r = pb false ∧ H'' = H.setMap id ((addTo av x.addr).map ent)) (fun q H'' h => ⟨by rw [h.1, hcb], addTo av x.addr, h.2, fun hc => by rw [hcb] at hc; cases hc⟩) ?_
 exact owes_one_at (H1 := H.setMap id ((addTo av x.addr).map ent)) (.inr rfl) (wf_setMap hwf hm _) (Nat.le_refl _) rfl (by simp [h0, h1, h2, h3, h4, h5, h6, h7, h15, h23, h24, h26, h27, h28]) (by simp (maxDischargeDepth := 20)) (by simp) (by simp)
 refine T_rg ?_
 simp [hm, hlk, hup, h0, h1, h2, h3, h4, h5, h6, h7, h15, h23, h24, h26, h27, h28]
 refine callK.of (bitsIs _ x.kind) ?_
 rintro _ Hz ⟨rfl, hz⟩
 subst Hz
 simp [hm, hlk, hup, h0, h1, h2, h3, h4, h5, h6, h7, h15, h23, h24, h26, h27, h28]
 refine hK41 _ _ ?_
 try clear hK41 K41
 refine T_ret ?_
 try simp only [tR, bR, lR]
 have hcb : cellB x av = false := by
   simp only [cellB, if_neg h0, if_neg h1, if_pos h2, if_pos h3, if_neg h4, if_neg h5, if_neg h6, if_neg h7, if_neg h15, if_pos h23, if_neg h24, if_pos h26, if_pos h27, if_neg h28]
 refine Owes.mono (k := fun r H'' => r = pb false ∧ H'' = H.setMap id ((addTo av x.addr).map ent)) (fun q H'' h => ⟨by rw [h.1, hcb], addTo av x.addr, h.2, fun hc => by rw [hcb] at hc; cases hc⟩) ?_
 exact owes_one_at (H1 := H.setMap id ((addTo av x.addr).map ent)) (.inr rfl) (wf_setMap hwf hm _) (Nat.le_refl _) rfl (by simp [h0, h1, h2, h3, h4, h5, h6, h7, h15, h23, h24, h26, h27, h28]) (by simp (maxDischargeDepth := 20)) (by simp) (by simp)
 refine T_rg ?_
 simp [hm, hlk, hup, h0, h1, h2, h3, h4, h5, h6, h7, h15, h23, h24, h26, h27]
 refine hK41 _ _ ?_
 try clear hK41 K41
 refine T_ret ?_
 try simp only [tR, bR, lR]
 have hcb : cellB x av = false := by
   simp only [cellB, if_neg h0, if_neg h1, if_pos h2, if_pos h3, if_neg h4, if_neg h5, if_neg h6, if_neg h7, if_neg h15, if_pos h23, if_neg h24, if_pos h26, if_neg h27]
 refine Owes.mono (k := fun r H'' => r = pb false ∧ H'' = H.setMap id ((addTo av x.addr).map ent)) (fun q H'' h => ⟨by rw [h.1, hcb], addTo av x.addr, h.2, fun hc => by rw [hcb] at hc; cases hc⟩) ?_
 exact owes_one_at (H1 := H.setMap id ((addTo av x.addr).map ent)) (.inr rfl) (wf_setMap hwf hm _) (Nat.le_refl _) rfl (by simp [h0, h1, h2, h3, h4, h5, h6, h7, h15, h23, h24, h26, h27]) (by simp (maxDischargeDepth := 20)) (by simp) (by simp)
 refine T_rg ?_
 simp [hm, hlk, hup, h0, h1, h2, h3, h4, h5, h6, h7, h15, h23, h24, h26]
 refine hK41 _ _ ?_
 try clear hK41 K41
 refine T_ret ?_
 try simp only [tR, bR, lR]
 have hcb : cellB x av = false := by
   simp only [cellB, if_neg h0, if_neg h1, if_pos h2, if_pos h3, if_neg h4, if_neg h5, if_neg h6, if_neg h7, if_neg h15, if_pos h23, if_neg h24, if_neg h26]
 refine Owes.mono (k := fun r H'' => r = pb false ∧ H'' = H.setMap id ((addTo av x.addr).map ent)) (fun q H'' h => ⟨by rw [h.1, hcb], addTo av x.addr, h.2, fun hc => by rw [hcb] at hc; cases hc⟩) ?_
 exact owes_one_at (H1 := H.setMap id ((addTo av x.addr).map ent)) (.inr rfl) (wf_setMap hwf hm _) (Nat.le_refl _) rfl (by simp [h0, h1, h2, h3, h4, h5, h6, h7, h15, h23, h24, h26]) (by simp (maxDischargeDepth := 20)) (by simp) (by simp)
 refine T_condT (by first | rfl | simp [h0, h1, h2, h3, h4, h5, h6, h7, h15, h23]) ?_
 refine T_sr fun K42 hK42 => ?_
 simp [hm, hlk, hup, h0, h1, h2, h3, h4, h5, h6, h7, h15, h23]
 refine hK42 _ _ ?_
 try clear hK42 K42
 refine T_ret ?_
 try simp only [tR, bR, lR]
 have hcb : cellB x av = false := by
   simp only [cellB, if_neg h0, if_neg h1, if_pos h2, if_pos h3, if_neg h4, if_neg h5, if_neg h6, if_neg h7, if_neg h15, if_neg h23]
 refine Owes.mono (k := fun r H'' => r = pb false ∧ H'' = H) (fun q H'' h => ⟨by rw [h.1, hcb], av, h.2.trans (setMap_self hm).symm, fun hc => by rw [hcb] at hc; cases hc⟩) ?_
 exact owes_one_at (H1 := H) (.inr rfl) (hwf) (Nat.le_refl _) rfl (by simp [h0, h1, h2, h3, h4, h5, h6, h7, h15, h23]) (by simp (maxDischargeDepth := 20)) (by simp) (by simp)
 refine T_rg ?_
 simp [hm, hlk, hup, h0, h1, h2, h3]
 refine callK.of (integerIs _ x.kind) ?_
 rintro _ Hz ⟨rfl, hz⟩
 subst Hz
 simp [hm, hlk, hup, h0, h1, h2, h3]
 refine hK2 _ _ ?_
 try clear hK2 K2
 refine T_condT (by first | rfl | simp [h0, h1, h2, h3]) ?_
 refine T_sr fun K43 hK43 => ?_
 simp [hm, hlk, hup, h0, h1, h2, h3]
 refine hK43 _ _ ?_
 try clear hK43 K43
 refine T_ret ?_
 try simp only [tR, bR, lR]
 have hcb : cellB x av = false := by
   simp only [cellB, if_neg h0, if_neg h1, if_pos h2, if_neg h3]
 refine Owes.mono (k := fun r H'' => r = pb false ∧ H'' = H) (fun q H'' h => ⟨by rw [h.1, hcb], av, h.2.trans (setMap_self hm).symm, fun hc => by rw [hcb] at hc; cases hc⟩) ?_
 exact owes_one_at (H1 := H) (.inr rfl) (hwf) (Nat.le_refl _) rfl (by simp [h0, h1, h2, h3]) (by simp (maxDischargeDepth := 20)) (by simp) (by simp)
 by_cases h29 : x.lo = 0
 by_cases h30 : x.hi = 0
 refine T_rg ?_
 simp [hm, hlk, hup, h0, h1, h2, h29, h30]
 refine hK2 _ _ ?_
 try clear hK2 K2
 refine T_condF (by first | rfl | simp [h0, h1, h2, h29, h30]) ?_
 refine T_skip ?_
 try simp only [tN, bN, lN]
 refine hK1 _ _ ?_
 try clear hK1 K1
 refine T_seqk fun K44 hK44 => ?_
 refine T_seqk fun K45 hK45 => ?_
 by_cases h31 : x.max < 0
 refine T_rg ?_
 simp [hm, hlk, hup, h0, h1, h2, h29, h30, h31]
 refine hK45 _ _ ?_
 try clear hK45 K45
 refine T_condT (by first | rfl | simp [h0, h1, h2, h29, h30, h31]) ?_
 refine T_sr fun K46 hK46 => ?_
 simp [hm, hlk, hup, h0, h1, h2, h29, h30, h31]
 refine hK46 _ _ ?_
 try clear hK46 K46
 refine T_ret ?_
 try simp only [tR, bR, lR]
 have hcb : cellB x av = false := by
   simp only [cellB, if_neg h0, if_neg h1, if_neg h2, if_pos h29, if_pos h30, if_pos h31]
 refine Owes.mono (k := fun r H'' => r = pb false ∧ H'' = H) (fun q H'' h => ⟨by rw [h.1, hcb], av, h.2.trans (setMap_self hm).symm, fun hc => by rw [hcb] at hc; cases hc⟩) ?_
 exact owes_one_at (H1 := H) (.inr rfl) (hwf) (Nat.le_refl _) rfl (by simp [h0, h1, h2, h29, h30, h31]) (by simp (maxDischargeDepth := 20)) (by simp) (by simp)
 by_cases h32 : 254 < x.max
 refine T_rg ?_
 simp [hm, hlk, hup, h0, h1, h2, h29, h30, h31, h32]
 refine hK45 _ _ ?_
 try clear hK45 K45
 refine T_condT (by first | rfl | simp [h0, h1, h2, h29, h30, h31, h32]) ?_
 refine T_sr fun K47 hK47 => ?_
 simp [hm, hlk, hup, h0, h1, h2, h29, h30, h31, h32]
 refine hK47 _ _ ?_
 try clear hK47 K47
 refine T_ret ?_
 try simp only [tR, bR, lR]
 have hcb : cellB x av = false := by
   simp only [cellB, if_neg h0, if_neg h1, if_neg h2, if_pos h29, if_pos h30, if_neg h31, if_pos h32]
 refine Owes.mono (k := fun r H'' => r = pb false ∧ H'' = H) (fun q H'' h => ⟨by rw [h.1, hcb], av, h.2.trans (setMap_self hm).symm, fun hc => by rw [hcb] at hc; cases hc⟩) ?_
 exact owes_one_at (H1 := H) (.inr rfl) (hwf) (Nat.le_refl _) rfl (by simp [h0, h1, h2, h29, h30, h31, h32]) (by simp (maxDischargeDepth := 20)) (by simp) (by simp)
 by_cases h33 : 0 < x.max
 refine T_rg ?_
 simp [hm, hlk, hup, h0, h1, h2, h29, h30, h31, h32, h33]
 refine hK45 _ _ ?_
 try clear hK45 K45
 by_cases h34 : x.kind = 19
 refine T_condF (by first | rfl | simp [h0, h1, h2, h29, h30, h31, h32, h33, h34]) ?_
 refine T_skip ?_
 try simp only [tN, bN, lN]
 refine hK44 _ _ ?_
 try clear hK44 K44
 refine T_seqk fun K48 hK48 => ?_
 refine T_sr fun K49 hK49 => ?_
 simp [hm, hlk, hup, h0, h1, h2, h29, h30, h31, h32, h33, h34]
 refine hK49 _ _ ?_
 try clear hK49 K49
 refine T_condF (by first | rfl | simp [h0, h1, h2, h29, h30, h31, h32, h33, h34]) ?_
 refine T_sr fun K50 hK50 => ?_
 simp [hm, hlk, hup, h0, h1, h2, h29, h30, h31, h32, h33, h34]
 refine callK.of (fitsTIs _ ({ kind := 19, sub := false, lo := 0, hi := 0, max := x.max, array := false, fr := 0, to := 0, block := ⟨#[]⟩ } : DType) x.init) ?_
 rintro _ Hz ⟨rfl, hz⟩
 subst Hz
 simp [hm, hlk, hup, h0, h1, h2, h29, h30, h31, h32, h33, h34]
 refine hK50 _ _ ?_
 try clear hK50 K50
 by_cases h35 : (fitsT ({ kind := 19, sub := false, lo := 0, hi := 0, max := x.max, array := false, fr := 0, to := 0, block := ⟨#[]⟩ } : DType) x.init) = 0
 refine T_condF (by first | rfl | simp [h0, h1, h2, h29, h30, h31, h32, h33, h34, h35]) ?_
 refine T_skip ?_
 try simp only [tN, bN, lN]
 refine hK48 _ _ ?_
 try clear hK48 K48
 refine T_seqk fun K51 hK51 => ?_
 refine T_sr fun K52 hK52 => ?_
 simp [hm, hlk, hup, h0, h1, h2, h29, h30, h31, h32, h33, h34, h35]
 refine hK52 _ _ ?_
 try clear hK52 K52
 by_cases h36 : x.addr = ⟨#[]⟩
 refine T_condT (by first | rfl | simp [h0, h1, h2, h29, h30, h31, h32, h33, h34, h35, h36]) ?_
 refine T_sr fun K53 hK53 => ?_
 simp [hm, hlk, hup, h0, h1, h2, h29, h30, h31, h32, h33, h34, h35, h36]
 refine hK53 _ _ ?_
 try clear hK53 K53
 refine T_ret ?_
 try simp only [tR, bR, lR]
 by_cases h37 : x.dir = 0
 have hcb : cellB x av = true := by
   simp only [cellB, if_neg h0, if_neg h1, if_neg h2, if_pos h29, if_pos h30, if_neg h31, if_neg h32, if_pos h33, if_pos h34, if_pos h35, if_pos h36, if_pos h37]
 refine Owes.mono (k := fun r H'' => r = pb true ∧ H'' = H) (fun q H'' h => ⟨by rw [h.1, hcb], av, h.2.trans (setMap_self hm).symm, fun hc => (if_pos h36).symm⟩) ?_
 exact owes_one_at (H1 := H) (.inr rfl) (hwf) (Nat.le_refl _) rfl (by simp [h0, h1, h2, h29, h30, h31, h32, h33, h34, h35, h36, h37]) (by simp (maxDischargeDepth := 20)) (by simp) (by simp)
 have hcb : cellB x av = false := by
   simp only [cellB, if_neg h0, if_neg h1, if_neg h2, if_pos h29, if_pos h30, if_neg h31, if_neg h32, if_pos h33, if_pos h34, if_pos h35, if_pos h36, if_neg h37]
 refine Owes.mono (k := fun r H'' => r = pb false ∧ H'' = H) (fun q H'' h => ⟨by rw [h.1, hcb], av, h.2.trans (setMap_self hm).symm, fun hc => by rw [hcb] at hc; cases hc⟩) ?_
 exact owes_one_at (H1 := H) (.inr rfl) (hwf) (Nat.le_refl _) rfl (by simp [h0, h1, h2, h29, h30, h31, h32, h33, h34, h35, h36, h37]) (by simp (maxDischargeDepth := 20)) (by simp) (by simp)
 refine T_condF (by first | rfl | simp [h0, h1, h2, h29, h30, h31, h32, h33, h34, h35, h36]) ?_
 refine T_skip ?_
 try simp only [tN, bN, lN]
 refine hK51 _ _ ?_
 try clear hK51 K51
 refine T_sr fun K54 hK54 => ?_
 simp [hm, hlk, hup, h0, h1, h2, h29, h30, h31, h32, h33, h34, h35, h36]
 refine callK.of (isAddrIs _ x.addr hs) ?_
 rintro _ Hz ⟨rfl, hz⟩
 subst Hz
 simp [hm, hlk, hup, h0, h1, h2, h29, h30, h31, h32, h33, h34, h35, h36]
 refine hK54 _ _ ?_
 try clear hK54 K54
 refine T_sr fun K55 hK55 => ?_
 simp [hm, hlk, hup, h0, h1, h2, h29, h30, h31, h32, h33, h34, h35, h36]
 refine hK55 _ _ ?_
 try clear hK55 K55
 refine T_sr fun K56 hK56 => ?_
 simp [hm, hlk, hup, h0, h1, h2, h29, h30, h31, h32, h33, h34, h35, h36]
 refine hK56 _ _ ?_
 try clear hK56 K56
 refine T_seqk fun K57 hK57 => ?_
 by_cases h38 : (addrR x.addr).2.2 = true
 by_cases h39 : (addrR x.addr).2.1 = x.dir
 by_cases h40 : (addrR x.addr).1 = (bitsN 19)
 refine T_rg ?_
 simp [hm, hlk, hup, h0, h1, h2, h29, h30, h31, h32, h33, h34, h35, h36, h38, h39, h40]
 refine callK.of (bitsIs _ 19) ?_
 rintro _ Hz ⟨rfl, hz⟩
 subst Hz
 simp [hm, hlk, hup, h0, h1, h2, h29, h30, h31, h32, h33, h34, h35, h36, h38, h39, h40]
 refine hK57 _ _ ?_
 try clear hK57 K57
 refine T_ret ?_
 try simp only [tR, bR, lR]
 by_cases h41 : memB av x.addr = true
 have hcb : cellB x av = false := by
   simp only [cellB, if_neg h0, if_neg h1, if_neg h2, if_pos h29, if_pos h30, if_neg h31, if_neg h32, if_pos h33, if_pos h34, if_pos h35, if_neg h36, if_pos h38, if_pos h39, if_pos h40, if_pos h41]
 refine Owes.mono (k := fun r H'' => r = pb false ∧ H'' = H.setMap id ((addTo av x.addr).map ent)) (fun q H'' h => ⟨by rw [h.1, hcb], addTo av x.addr, h.2, fun hc => by rw [hcb] at hc; cases hc⟩) ?_
 exact owes_one_at (H1 := H.setMap id ((addTo av x.addr).map ent)) (.inr rfl) (wf_setMap hwf hm _) (Nat.le_refl _) rfl (by simp [h0, h1, h2, h29, h30, h31, h32, h33, h34, h35, h36, h38, h39, h40, h41]) (by simp (maxDischargeDepth := 20)) (by simp) (by simp)
 have hcb : cellB x av = true := by
   simp only [cellB, if_neg h0, if_neg h1, if_neg h2, if_pos h29, if_pos h30, if_neg h31, if_neg h32, if_pos h33, if_pos h34, if_pos h35, if_neg h36, if_pos h38, if_pos h39, if_pos h40, if_neg h41]
 refine Owes.mono (k := fun r H'' => r = pb true ∧ H'' = H.setMap id ((addTo av x.addr).map ent)) (fun q H'' h => ⟨by rw [h.1, hcb], addTo av x.addr, h.2, fun hc => (if_neg h36).symm⟩) ?_
 exact owes_one_at (H1 := H.setMap id ((addTo av x.addr).map ent)) (.inr rfl) (wf_setMap hwf hm _) (Nat.le_refl _) rfl (by simp [h0, h1, h2, h29, h30, h31, h32, h33, h34, h35, h36, h38, h39, h40, h41]) (by simp (maxDischargeDepth := 20)) (by simp) (by simp)
 refine T_rg ?_
 simp [hm, hlk, hup, h0, h1, h2, h29, h30, h31, h32, h33, h34, h35, h36, h38, h39, h40]
 refine callK.of (bitsIs _ 19) ?_
 rintro _ Hz ⟨rfl, hz⟩
 subst Hz
 simp [hm, hlk, hup, h0, h1, h2, h29, h30, h31, h32, h33, h34, h35, h36, h38, h39, h40]
 refine hK57 _ _ ?_
 try clear hK57 K57
 refine T_ret ?_
 try simp only [tR, bR, lR]
 have hcb : cellB x av = false := by
   simp only [cellB, if_neg h0, if_neg h1, if_neg h2, if_pos h29, if_pos h30, if_neg h31, if_neg h32, if_pos h33, if_pos h34, if_pos h35, if_neg h36, if_pos h38, if_pos h39, if_neg h40]
 refine Owes.mono (k := fun r H'' => r = pb false ∧ H'' = H.setMap id ((addTo av x.addr).map ent)) (fun q H'' h => ⟨by rw [h.1, hcb], addTo av x.addr, h.2, fun hc => by rw [hcb] at hc; cases hc⟩) ?_
 exact owes_one_at (H1 := H.setMap id ((addTo av x.addr).map ent)) (.inr rfl) (wf_setMap hwf hm _) (Nat.le_refl _) rfl (by simp [h0, h1, h2, h29, h30, h31, h32, h33, h34, h35, h36, h38, h39, h40]) (by simp (maxDischargeDepth := 20)) (by simp) (by simp)
 refine T_rg ?_
 simp [hm, hlk, hup, h0, h1, h2, h29, h30, h31, h32, h33, h34, h35, h36, h38, h39]
 refine hK57 _ _ ?_
 try clear hK57 K57
 refine T_ret ?_
 try simp only [tR, bR, lR]
 have hcb : cellB x av = false := by
   simp only [cellB, if_neg h0, if_neg h1, if_neg h2, if_pos h29, if_pos h30, if_neg h31, if_neg h32, if_pos h33, if_pos h34, if_pos h35, if_neg h36, if_pos h38, if_neg h39]
 refine Owes.mono (k := fun r H'' => r = pb false ∧ H'' = H.setMap id ((addTo av x.addr).map ent)) (fun q H'' h => ⟨by rw [h.1, hcb], addTo av x.addr, h.2, fun hc => by rw [hcb] at hc; cases hc⟩) ?_
 exact owes_one_at (H1 := H.setMap id ((addTo av x.addr).map ent)) (.inr rfl) (wf_setMap hwf hm _) (Nat.le_refl _) rfl (by simp [h0, h1, h2, h29, h30, h31, h32, h33, h34, h35, h36, h38, h39]) (by simp (maxDischargeDepth := 20)) (by simp) (by simp)
 refine T_rg ?_
 simp [hm, hlk, hup, h0, h1, h2, h29, h30, h31, h32, h33, h34, h35, h36, h38]
 refine hK57 _ _ ?_
 try clear hK57 K57
 refine T_ret ?_
 try simp only [tR, bR, lR]
 have hcb : cellB x av = false := by
   simp only [cellB, if_neg h0, if_neg h1, if_neg h2, if_pos h29, if_pos h30, if_neg h31, if_neg h32, if_pos h33, if_pos h34, if_pos h35, if_neg h36, if_neg h38]
 refine Owes.mono (k := fun r H'' => r = pb false ∧ H'' = H.setMap id ((addTo av x.addr).map ent)) (fun q H'' h => ⟨by rw [h.1, hcb], addTo av x.addr, h.2, fun hc => by rw [hcb] at hc; cases hc⟩) ?_
 exact owes_one_at (H1 := H.setMap id ((addTo av x.addr).map ent)) (.inr rfl) (wf_setMap hwf hm _) (Nat.le_refl _) rfl (by simp [h0, h1, h2, h29, h30, h31, h32, h33, h34, h35, h36, h38]) (by simp (maxDischargeDepth := 20)) (by simp) (by simp)
 refine T_condT (by first | rfl | simp [h0, h1, h2, h29, h30, h31, h32, h33, h34, h35]) ?_
 refine T_sr fun K58 hK58 => ?_
 simp [hm, hlk, hup, h0, h1, h2, h29, h30, h31, h32, h33, h34, h35]
 refine hK58 _ _ ?_
 try clear hK58 K58
 refine T_ret ?_
 try simp only [tR, bR, lR]
 have hcb : cellB x av = false := by
   simp only [cellB, if_neg h0, if_neg h1, if_neg h2, if_pos h29, if_pos h30, if_neg h31, if_neg h32, if_pos h33, if_pos h34, if_neg h35]
 refine Owes.mono (k := fun r H'' => r = pb false ∧ H'' = H) (fun q H'' h => ⟨by rw [h.1, hcb], av, h.2.trans (setMap_self hm).symm, fun hc => by rw [hcb] at hc; cases hc⟩) ?_
 exact owes_one_at (H1 := H) (.inr rfl) (hwf) (Nat.le_refl _) rfl (by simp [h0, h1, h2, h29, h30, h31, h32, h33, h34, h35]) (by simp (maxDischargeDepth := 20)) (by simp) (by simp)
 refine T_condT (by first | rfl | simp [h0, h1, h2, h29, h30, h31, h32, h33, h34]) ?_
 refine T_sr fun K59 hK59 => ?_
 simp [hm, hlk, hup, h0, h1, h2, h29, h30, h31, h32, h33, h34]
 refine hK59 _ _ ?_
 try clear hK59 K59
 refine T_ret ?_
 try simp only [tR, bR, lR]
 have hcb : cellB x av = false := by
   simp only [cellB, if_neg h0, if_neg h1, if_neg h2, if_pos h29, if_pos h30, if_neg h31, if_neg h32, if_pos h33, if_neg h34]
 refine Owes.mono (k := fun r H'' => r = pb false ∧ H'' = H) (fun q H'' h => ⟨by rw [h.1, hcb], av, h.2.trans (setMap_self hm).symm, fun hc => by rw [hcb] at hc; cases hc⟩) ?_
 exact owes_one_at (H1 := H) (.inr rfl) (hwf) (Nat.le_refl _) rfl (by simp [h0, h1, h2, h29, h30, h31, h32, h33, h34]) (by simp (maxDischargeDepth := 20)) (by simp) (by simp)
 refine T_rg ?_
 simp [hm, hlk, hup, h0, h1, h2, h29, h30, h31, h32, h33]
 refine hK45 _ _ ?_
 try clear hK45 K45
 refine T_condF (by first | rfl | simp [h0, h1, h2, h29, h30, h31, h32, h33]) ?_
 refine T_skip ?_
 try simp only [tN, bN, lN]
 refine hK44 _ _ ?_
 try clear hK44 K44
 refine T_seqk fun K60 hK60 => ?_
 refine T_sr fun K61 hK61 => ?_
 simp [hm, hlk, hup, h0, h1, h2, h29, h30, h31, h32, h33]
 refine hK61 _ _ ?_
 try clear hK61 K61
 by_cases h42 : x.kind = 20
 refine T_condT (by first | rfl | simp [h0, h1, h2, h29, h30, h31, h32, h33, h42]) ?_
 refine T_seqk fun K62 hK62 => ?_
 by_cases h43 : eqv x.init.kind x.init.bits x.init.text 20 0 ⟨#[]⟩ = true
 refine T_rg ?_
 simp [hm, hlk, hup, h0, h1, h2, h29, h30, h31, h32, h33, h42, h43]
 refine hK62 _ _ ?_
 try clear hK62 K62
 by_cases h44 : x.keep = true
 refine T_condT (by first | rfl | simp [h0, h1, h2, h29, h30, h31, h32, h33, h42, h43, h44]) ?_
 refine T_sr fun K63 hK63 => ?_
 simp [hm, hlk, hup, h0, h1, h2, h29, h30, h31, h32, h33, h42, h43, h44]
 refine hK63 _ _ ?_
 try clear hK63 K63
 refine T_ret ?_
 try simp only [tR, bR, lR]
 have hcb : cellB x av = false := by
   simp only [cellB, if_neg h0, if_neg h1, if_neg h2, if_pos h29, if_pos h30, if_neg h31, if_neg h32, if_neg h33, if_pos h42, if_pos h43, if_pos h44]
 refine Owes.mono (k := fun r H'' => r = pb false ∧ H'' = H) (fun q H'' h => ⟨by rw [h.1, hcb], av, h.2.trans (setMap_self hm).symm, fun hc => by rw [hcb] at hc; cases hc⟩) ?_
 exact owes_one_at (H1 := H) (.inr rfl) (hwf) (Nat.le_refl _) rfl (by simp [h0, h1, h2, h29, h30, h31, h32, h33, h42, h43, h44]) (by simp (maxDischargeDepth := 20)) (by simp) (by simp)
 refine T_condF (by first | rfl | simp [h0, h1, h2, h29, h30, h31, h32, h33, h42, h43, h44]) ?_
 refine T_skip ?_
 try simp only [tN, bN, lN]
 refine hK60 _ _ ?_
 try clear hK60 K60
 refine T_seqk fun K64 hK64 => ?_
 refine T_sr fun K65 hK65 => ?_
 simp [hm, hlk, hup, h0, h1, h2, h29, h30, h31, h32, h33, h42, h43, h44]
 refine hK65 _ _ ?_
 try clear hK65 K65
 by_cases h45 : x.addr = ⟨#[]⟩
 refine T_condT (by first | rfl | simp [h0, h1, h2, h29, h30, h31, h32, h33, h42, h43, h44, h45]) ?_
 refine T_sr fun K66 hK66 => ?_
 simp [hm, hlk, hup, h0, h1, h2, h29, h30, h31, h32, h33, h42, h43, h44, h45]
 refine hK66 _ _ ?_
 try clear hK66 K66
 refine T_ret ?_
 try simp only [tR, bR, lR]
 by_cases h46 : x.dir = 0
 have hcb : cellB x av = true := by
   simp only [cellB, if_neg h0, if_neg h1, if_neg h2, if_pos h29, if_pos h30, if_neg h31, if_neg h32, if_neg h33, if_pos h42, if_pos h43, if_neg h44, if_pos h45, if_pos h46]
 refine Owes.mono (k := fun r H'' => r = pb true ∧ H'' = H) (fun q H'' h => ⟨by rw [h.1, hcb], av, h.2.trans (setMap_self hm).symm, fun hc => (if_pos h45).symm⟩) ?_
 exact owes_one_at (H1 := H) (.inr rfl) (hwf) (Nat.le_refl _) rfl (by simp [h0, h1, h2, h29, h30, h31, h32, h33, h42, h43, h44, h45, h46]) (by simp (maxDischargeDepth := 20)) (by simp) (by simp)
 have hcb : cellB x av = false := by
   simp only [cellB, if_neg h0, if_neg h1, if_neg h2, if_pos h29, if_pos h30, if_neg h31, if_neg h32, if_neg h33, if_pos h42, if_pos h43, if_neg h44, if_pos h45, if_neg h46]
 refine Owes.mono (k := fun r H'' => r = pb false ∧ H'' = H) (fun q H'' h => ⟨by rw [h.1, hcb], av, h.2.trans (setMap_self hm).symm, fun hc => by rw [hcb] at hc; cases hc⟩) ?_
 exact owes_one_at (H1 := H) (.inr rfl) (hwf) (Nat.le_refl _) rfl (by simp [h0, h1, h2, h29, h30, h31, h32, h33, h42, h43, h44, h45, h46]) (by simp (maxDischargeDepth := 20)) (by simp) (by simp)
 refine T_condF (by first | rfl | simp [h0, h1, h2, h29, h30, h31, h32, h33, h42, h43, h44, h45]) ?_
 refine T_skip ?_
 try simp only [tN, bN, lN]
 refine hK64 _ _ ?_
 try clear hK64 K64
 refine T_sr fun K67 hK67 => ?_
 simp [hm, hlk, hup, h0, h1, h2, h29, h30, h31, h32, h33, h42, h43, h44, h45]
 refine callK.of (isAddrIs _ x.addr hs) ?_
 rintro _ Hz ⟨rfl, hz⟩
 subst Hz
 simp [hm, hlk, hup, h0, h1, h2, h29, h30, h31, h32, h33, h42, h43, h44, h45]
 refine hK67 _ _ ?_
 try clear hK67 K67
 refine T_sr fun K68 hK68 => ?_
 simp [hm, hlk, hup, h0, h1, h2, h29, h30, h31, h32, h33, h42, h43, h44, h45]
 refine hK68 _ _ ?_
 try clear hK68 K68
 refine T_sr fun K69 hK69 => ?_
 simp [hm, hlk, hup, h0, h1, h2, h29, h30, h31, h32, h33, h42, h43, h44, h45]
 refine hK69 _ _ ?_
 try clear hK69 K69
 refine T_seqk fun K70 hK70 => ?_
 by_cases h47 : (addrR x.addr).2.2 = true
 by_cases h48 : (addrR x.addr).2.1 = x.dir
 by_cases h49 : (addrR x.addr).1 = (bitsN 20)
 refine T_rg ?_
 simp [hm, hlk, hup, h0, h1, h2, h29, h30, h31, h32, h33, h42, h43, h44, h45, h47, h48, h49]
 refine callK.of (bitsIs _ 20) ?_
 rintro _ Hz ⟨rfl, hz⟩
 subst Hz
 simp [hm, hlk, hup, h0, h1, h2, h29, h30, h31, h32, h33, h42, h43, h44, h45, h47, h48, h49]
 refine hK70 _ _ ?_
 try clear hK70 K70
 refine T_ret ?_
 try simp only [tR, bR, lR]
 by_cases h50 : memB av x.addr = true
 have hcb : cellB x av = false := by
   simp only [cellB, if_neg h0, if_neg h1, if_neg h2, if_pos h29, if_pos h30, if_neg h31, if_neg h32, if_neg h33, if_pos h42, if_pos h43, if_neg h44, if_neg h45, if_pos h47, if_pos h48, if_pos h49, if_pos h50]
 refine Owes.mono (k := fun r H'' => r = pb false ∧ H'' = H.setMap id ((addTo av x.addr).map ent)) (fun q H'' h => ⟨by rw [h.1, hcb], addTo av x.addr, h.2, fun hc => by rw [hcb] at hc; cases hc⟩) ?_
 exact owes_one_at (H1 := H.setMap id ((addTo av x.addr).map ent)) (.inr rfl) (wf_setMap hwf hm _) (Nat.le_refl _) rfl (by simp [h0, h1, h2, h29, h30, h31, h32, h33, h42, h43, h44, h45, h47, h48, h49, h50]) (by simp (maxDischargeDepth := 20)) (by simp) (by simp)
 have hcb : cellB x av = true := by
   simp only [cellB, if_neg h0, if_neg h1, if_neg h2, if_pos h29, if_pos h30, if_neg h31, if_neg h32, if_neg h33, if_pos h42, if_pos h43, if_neg h44, if_neg h45, if_pos h47, if_pos h48, if_pos h49, if_neg h50]
 refine Owes.mono (k := fun r H'' => r = pb true ∧ H'' = H.setMap id ((addTo av x.addr).map ent)) (fun q H'' h => ⟨by rw [h.1, hcb], addTo av x.addr, h.2, fun hc => (if_neg h45).symm⟩) ?_
 exact owes_one_at (H1 := H.setMap id ((addTo av x.addr).map ent)) (.inr rfl) (wf_setMap hwf hm _) (Nat.le_refl _) rfl (by simp [h0, h1, h2, h29, h30, h31, h32, h33, h42, h43, h44, h45, h47, h48, h49, h50]) (by simp (maxDischargeDepth := 20)) (by simp) (by simp)
 refine T_rg ?_
 simp [hm, hlk, hup, h0, h1, h2, h29, h30, h31, h32, h33, h42, h43, h44, h45, h47, h48, h49]
 refine callK.of (bitsIs _ 20) ?_
 rintro _ Hz ⟨rfl, hz⟩
 subst Hz
 simp [hm, hlk, hup, h0, h1, h2, h29, h30, h31, h32, h33, h42, h43, h44, h45, h47, h48, h49]
 refine hK70 _ _ ?_
 try clear hK70 K70
 refine T_ret ?_
 try simp only [tR, bR, lR]
 have hcb : cellB x av = false := by
   simp only [cellB, if_neg h0, if_neg h1, if_neg h2, if_pos h29, if_pos h30, if_neg h31, if_neg h32, if_neg h33, if_pos h42, if_pos h43, if_neg h44, if_neg h45, if_pos h47, if_pos h48, if_neg h49]
 refine Owes.mono (k := fun r H'' => r = pb false ∧ H'' = H.setMap id ((addTo av x.addr).map ent)) (fun q H'' h => ⟨by rw [h.1, hcb], addTo av x.addr, h.2, fun hc => by rw [hcb] at hc; cases hc⟩) ?_
 exact owes_one_at (H1 := H.setMap id ((addTo av x.addr).map ent)) (.inr rfl) (wf_setMap hwf hm _) (Nat.le_refl _) rfl (by simp [h0, h1, h2, h29, h30, h31, h32, h33, h42, h43, h44, h45, h47, h48, h49]) (by simp (maxDischargeDepth := 20)) (by simp) (by simp)
 refine T_rg ?_
 simp [hm, hlk, hup, h0, h1, h2, h29, h30, h31, h32, h33, h42, h43, h44, h45, h47, h48]
 refine hK70 _ _ ?_
 try clear hK70 K70
 refine T_ret ?_
 try simp only [tR, bR, lR]
 have hcb : cellB x av = false := by
   simp only [cellB, if_neg h0, if_neg h1, if_neg h2, if_pos h29, if_pos h30, if_neg h31, if_neg h32, if_neg h33, if_pos h42, if_pos h43, if_neg h44, if_neg h45, if_pos h47, if_neg h48]
 refine Owes.mono (k := fun r H'' => r = pb false ∧ H'' = H.setMap id ((addTo av x.addr).map ent)) (fun q H'' h => ⟨by rw [h.1, hcb], addTo av x.addr, h.2, fun hc => by rw [hcb] at hc; cases hc⟩) ?_
 exact owes_one_at (H1 := H.setMap id ((addTo av x.addr).map ent)) (.inr rfl) (wf_setMap hwf hm _) (Nat.le_refl _) rfl (by simp [h0, h1, h2, h29, h30, h31, h32, h33, h42, h43, h44, h45, h47, h48]) (by simp (maxDischargeDepth := 20)) (by simp) (by simp)
 refine T_rg ?_
 simp [hm, hlk, hup, h0, h1, h2, h29, h30, h31, h32, h33, h42, h43, h44, h45, h47]
 refine hK70 _ _ ?_
 try clear hK70 K70
 refine T_ret ?_
 try simp only [tR, bR, lR]
 have hcb : cellB x av = false := by
   simp only [cellB, if_neg h0, if_neg h1, if_neg h2, if_pos h29, if_pos h30, if_neg h31, if_neg h32, if_neg h33, if_pos h42, if_pos h43, if_neg h44, if_neg h45, if_neg h47]
 refine Owes.mono (k := fun r H'' => r = pb false ∧ H'' = H.setMap id ((addTo av x.addr).map ent)) (fun q H'' h => ⟨by rw [h.1, hcb], addTo av x.addr, h.2, fun hc => by rw [hcb] at hc; cases hc⟩) ?_
 exact owes_one_at (H1 := H.setMap id ((addTo av x.addr).map ent)) (.inr rfl) (wf_setMap hwf hm _) (Nat.le_refl _) rfl (by simp [h0, h1, h2, h29, h30, h31, h32, h33, h42, h43, h44, h45, h47]) (by simp (maxDischargeDepth := 20)) (by simp) (by simp)
 refine T_rg ?_
 simp [hm, hlk, hup, h0, h1, h2, h29, h30, h31, h32, h33, h42, h43]
 refine hK62 _ _ ?_
 try clear hK62 K62
 refine T_condT (by first | rfl | simp [h0, h1, h2, h29, h30, h31, h32, h33, h42, h43]) ?_
 refine T_sr fun K71 hK71 => ?_
 simp [hm, hlk, hup, h0, h1, h2, h29, h30, h31, h32, h33, h42, h43]
 refine hK71 _ _ ?_
 try clear hK71 K71
 refine T_ret ?_
 try simp only [tR, bR, lR]
 have hcb : cellB x av = false := by
   simp only [cellB, if_neg h0, if_neg h1, if_neg h2, if_pos h29, if_pos h30, if_neg h31, if_neg h32, if_neg h33, if_pos h42, if_neg h43]
 refine Owes.mono (k := fun r H'' => r = pb false ∧ H'' = H) (fun q H'' h => ⟨by rw [h.1, hcb], av, h.2.trans (setMap_self hm).symm, fun hc => by rw [hcb] at hc; cases hc⟩) ?_
 exact owes_one_at (H1 := H) (.inr rfl) (hwf) (Nat.le_refl _) rfl (by simp [h0, h1, h2, h29, h30, h31, h32, h33, h42, h43]) (by simp (maxDischargeDepth := 20)) (by simp) (by simp)
 refine T_condF (by first | rfl | simp [h0, h1, h2, h29, h30, h31, h32, h33, h42]) ?_
 refine T_sr fun K72 hK72 => ?_
 simp [hm, hlk, hup, h0, h1, h2, h29, h30, h31, h32, h33, h42]
 refine callK.of (fitsTIs _ ({ kind := x.kind, sub := false, lo := 0, hi := 0, max := x.max, array := false, fr := 0, to := 0, block := ⟨#[]⟩ } : DType) x.init) ?_
 rintro _ Hz ⟨rfl, hz⟩
 subst Hz
 simp [hm, hlk, hup, h0, h1, h2, h29, h30, h31, h32, h33, h42]
 refine hK72 _ _ ?_
 try clear hK72 K72
 by_cases h51 : (fitsT ({ kind := x.kind, sub := false, lo := 0, hi := 0, max := x.max, array := false, fr := 0, to := 0, block := ⟨#[]⟩ } : DType) x.init) = 0
 refine T_condF (by first | rfl | simp [h0, h1, h2, h29, h30, h31, h32, h33, h42, h51]) ?_
 refine T_skip ?_
 try simp only [tN, bN, lN]
 refine hK60 _ _ ?_
 try clear hK60 K60
 refine T_seqk fun K73 hK73 => ?_
 refine T_sr fun K74 hK74 => ?_
 simp [hm, hlk, hup, h0, h1, h2, h29, h30, h31, h32, h33, h42, h51]
 refine hK74 _ _ ?_
 try clear hK74 K74
 by_cases h52 : x.addr = ⟨#[]⟩
 refine T_condT (by first | rfl | simp [h0, h1, h2, h29, h30, h31, h32, h33, h42, h51, h52]) ?_
 refine T_sr fun K75 hK75 => ?_
 simp [hm, hlk, hup, h0, h1, h2, h29, h30, h31, h32, h33, h42, h51, h52]
 refine hK75 _ _ ?_
 try clear hK75 K75
 refine T_ret ?_
 try simp only [tR, bR, lR]
 by_cases h53 : x.dir = 0
 have hcb : cellB x av = true := by
   simp only [cellB, if_neg h0, if_neg h1, if_neg h2, if_pos h29, if_pos h30, if_neg h31, if_neg h32, if_neg h33, if_neg h42, if_pos h51, if_pos h52, if_pos h53]
 refine Owes.mono (k := fun r H'' => r = pb true ∧ H'' = H) (fun q H'' h => ⟨by rw [h.1, hcb], av, h.2.trans (setMap_self hm).symm, fun hc => (if_pos h52).symm⟩) ?_
 exact owes_one_at (H1 := H) (.inr rfl) (hwf) (Nat.le_refl _) rfl (by simp [h0, h1, h2, h29, h30, h31, h32, h33, h42, h51, h52, h53]) (by simp (maxDischargeDepth := 20)) (by simp) (by simp)
 have hcb : cellB x av = false := by
   simp only [cellB, if_neg h0, if_neg h1, if_neg h2, if_pos h29, if_pos h30, if_neg h31, if_neg h32, if_neg h33, if_neg h42, if_pos h51, if_pos h52, if_neg h53]
 refine Owes.mono (k := fun r H'' => r = pb false ∧ H'' = H) (fun q H'' h => ⟨by rw [h.1, hcb], av, h.2.trans (setMap_self hm).symm, fun hc => by rw [hcb] at hc; cases hc⟩) ?_
 exact owes_one_at (H1 := H) (.inr rfl) (hwf) (Nat.le_refl _) rfl (by simp [h0, h1, h2, h29, h30, h31, h32, h33, h42, h51, h52, h53]) (by simp (maxDischargeDepth := 20)) (by simp) (by simp)
 refine T_condF (by first | rfl | simp [h0, h1, h2, h29, h30, h31, h32, h33, h42, h51, h52]) ?_
 refine T_skip ?_
 try simp only [tN, bN, lN]
 refine hK73 _ _ ?_
 try clear hK73 K73
 refine T_sr fun K76 hK76 => ?_
 simp [hm, hlk, hup, h0, h1, h2, h29, h30, h31, h32, h33, h42, h51, h52]
 refine callK.of (isAddrIs _ x.addr hs) ?_
 rintro _ Hz ⟨rfl, hz⟩
 subst Hz
 simp [hm, hlk, hup, h0, h1, h2, h29, h30, h31, h32, h33, h42, h51, h52]
 refine hK76 _ _ ?_
 try clear hK76 K76
 refine T_sr fun K77 hK77 => ?_
 simp [hm, hlk, hup, h0, h1, h2, h29, h30, h31, h32, h33, h42, h51, h52]
 refine hK77 _ _ ?_
 try clear hK77 K77
 refine T_sr fun K78 hK78 => ?_
 simp [hm, hlk, hup, h0, h1, h2, h29, h30, h31, h32, h33, h42, h51, h52]
 refine hK78 _ _ ?_
 try clear hK78 K78
 refine T_seqk fun K79 hK79 => ?_
 by_cases h54 : (addrR x.addr).2.2 = true
 by_cases h55 : (addrR x.addr).2.1 = x.dir
 by_cases h56 : (addrR x.addr).1 = (bitsN x.kind)
 refine T_rg ?_
 simp [hm, hlk, hup, h0, h1, h2, h29, h30, h31, h32, h33, h42, h51, h52, h54, h55, h56]
 refine callK.of (bitsIs _ x.kind) ?_
 rintro _ Hz ⟨rfl, hz⟩
 subst Hz
 simp [hm, hlk, hup, h0, h1, h2, h29, h30, h31, h32, h33, h42, h51, h52, h54, h55, h56]
 refine hK79 _ _ ?_
 try clear hK79 K79
 refine T_ret ?_
 try simp only [tR, bR, lR]
 by_cases h57 : memB av x.addr = true
 have hcb : cellB x av = false := by
   simp only [cellB, if_neg h0, if_neg h1, if_neg h2, if_pos h29, if_pos h30, if_neg h31, if_neg h32, if_neg h33, if_neg h42, if_pos h51, if_neg h52, if_pos h54, if_pos h55, if_pos h56, if_pos h57]
 refine Owes.mono (k := fun r H'' => r = pb false ∧ H'' = H.setMap id ((addTo av x.addr).map ent)) (fun q H'' h => ⟨by rw [h.1, hcb], addTo av x.addr, h.2, fun hc => by rw [hcb] at hc; cases hc⟩) ?_
 exact owes_one_at (H1 := H.setMap id ((addTo av x.addr).map ent)) (.inr rfl) (wf_setMap hwf hm _) (Nat.le_refl _) rfl (by simp [h0, h1, h2, h29, h30, h31, h32, h33, h42, h51, h52, h54, h55, h56, h57]) (by simp (maxDischargeDepth := 20)) (by simp) (by simp)
 have hcb : cellB x av = true := by
   simp only [cellB, if_neg h0, if_neg h1, if_neg h2, if_pos h29, if_pos h30, if_neg h31, if_neg h32, if_neg h33, if_neg h42, if_pos h51, if_neg h52, if_pos h54, if_pos h55, if_pos h56, if_neg h57]
 refine Owes.mono (k := fun r H'' => r = pb true ∧ H'' = H.setMap id ((addTo av x.addr).map ent)) (fun q H'' h => ⟨by rw [h.1, hcb], addTo av x.addr, h.2, fun hc => (if_neg h52).symm⟩) ?_
 exact owes_one_at (H1 := H.setMap id ((addTo av x.addr).map ent)) (.inr rfl) (wf_setMap hwf hm _) (Nat.le_refl _) rfl (by simp [h0, h1, h2, h29, h30, h31, h32, h33, h42, h51, h52, h54, h55, h56, h57]) (by simp (maxDischargeDepth := 20)) (by simp) (by simp)
 refine T_rg ?_
 simp [hm, hlk, hup, h0, h1, h2, h29, h30, h31, h32, h33, h42, h51, h52, h54, h55, h56]
 refine callK.of (bitsIs _ x.kind) ?_
 rintro _ Hz ⟨rfl, hz⟩
 subst Hz
 simp [hm, hlk, hup, h0, h1, h2, h29, h30, h31, h32, h33, h42, h51, h52, h54, h55, h56]
 refine hK79 _ _ ?_
 try clear hK79 K79
 refine T_ret ?_
 try simp only [tR, bR, lR]
 have hcb : cellB x av = false := by
   simp only [cellB, if_neg h0, if_neg h1, if_neg h2, if_pos h29, if_pos h30, if_neg h31, if_neg h32, if_neg h33, if_neg h42, if_pos h51, if_neg h52, if_pos h54, if_pos h55, if_neg h56]
 refine Owes.mono (k := fun r H'' => r = pb false ∧ H'' = H.setMap id ((addTo av x.addr).map ent)) (fun q H'' h => ⟨by rw [h.1, hcb], addTo av x.addr, h.2, fun hc => by rw [hcb] at hc; cases hc⟩) ?_
 exact owes_one_at (H1 := H.setMap id ((addTo av x.addr).map ent)) (.inr rfl) (wf_setMap hwf hm _) (Nat.le_refl _) rfl (by simp [h0, h1, h2, h29, h30, h31, h32, h33, h42, h51, h52, h54, h55, h56]) (by simp (maxDischargeDepth := 20)) (by simp) (by simp)
 refine T_rg ?_
 simp [hm, hlk, hup, h0, h1, h2, h29, h30, h31, h32, h33, h42, h51, h52, h54, h55]
 refine hK79 _ _ ?_
 try clear hK79 K79
 refine T_ret ?_
 try simp only [tR, bR, lR]
 have hcb : cellB x av = false := by
   simp only [cellB, if_neg h0, if_neg h1, if_neg h2, if_pos h29, if_pos h30, if_neg h31, if_neg h32, if_neg h33, if_neg h42, if_pos h51, if_neg h52, if_pos h54, if_neg h55]
 refine Owes.mono (k := fun r H'' => r = pb false ∧ H'' = H.setMap id ((addTo av x.addr).map ent)) (fun q H'' h => ⟨by rw [h.1, hcb], addTo av x.addr, h.2, fun hc => by rw [hcb] at hc; cases hc⟩) ?_
 exact owes_one_at (H1 := H.setMap id ((addTo av x.addr).map ent)) (.inr rfl) (wf_setMap hwf hm _) (Nat.le_refl _) rfl (by simp [h0, h1, h2, h29, h30, h31, h32, h33, h42, h51, h52, h54, h55]) (by simp (maxDischargeDepth := 20)) (by simp) (by simp)
 refine T_rg ?_
 simp [hm, hlk, hup, h0, h1, h2, h29, h30, h31, h32, h33, h42, h51, h52, h54]
 refine hK79 _ _ ?_
 try clear hK79 K79
 refine T_ret ?_
 try simp only [tR, bR, lR]
 have hcb : cellB x av = false := by
   simp only [cellB, if_neg h0, if_neg h1, if_neg h2, if_pos h29, if_pos h30, if_neg h31, if_neg h32, if_neg h33, if_neg h42, if_pos h51, if_neg h52, if_neg h54]
 refine Owes.mono (k := fun r H'' => r = pb false ∧ H'' = H.setMap id ((addTo av x.addr).map ent)) (fun q H'' h => ⟨by rw [h.1, hcb], addTo av x.addr, h.2, fun hc => by rw [hcb] at hc; cases hc⟩) ?_
 exact owes_one_at (H1 := H.setMap id ((addTo av x.addr).map ent)) (.inr rfl) (wf_setMap hwf hm _) (Nat.le_refl _) rfl (by simp [h0, h1, h2, h29, h30, h31, h32, h33, h42, h51, h52, h54]) (by simp (maxDischargeDepth := 20)) (by simp) (by simp)
 refine T_condT (by first | rfl | simp [h0, h1, h2, h29, h30, h31, h32, h33, h42, h51]) ?_
 refine T_sr fun K80 hK80 => ?_
 simp [hm, hlk, hup, h0, h1, h2, h29, h30, h31, h32, h33, h42, h51]
 refine hK80 _ _ ?_
 try clear hK80 K80
 refine T_ret ?_
 try simp only [tR, bR, lR]
 have hcb : cellB x av = false := by
   simp only [cellB, if_neg h0, if_neg h1, if_neg h2, if_pos h29, if_pos h30, if_neg h31, if_neg h32, if_neg h33, if_neg h42, if_neg h51]
 refine Owes.mono (k := fun r H'' => r = pb false ∧ H'' = H) (fun q H'' h => ⟨by rw [h.1, hcb], av, h.2.trans (setMap_self hm).symm, fun hc => by rw [hcb] at hc; cases hc⟩) ?_
 exact owes_one_at (H1 := H) (.inr rfl) (hwf) (Nat.le_refl _) rfl (by simp [h0, h1, h2, h29, h30, h31, h32, h33, h42, h51]) (by simp (maxDischargeDepth := 20)) (by simp) (by simp)
 refine T_rg ?_
 simp [hm, hlk, hup, h0, h1, h2, h29, h30]
 refine hK2 _ _ ?_
 try clear hK2 K2
 refine T_condT (by first | rfl | simp [h0, h1, h2, h29, h30]) ?_
 refine T_sr fun K81 hK81 => ?_
 simp [hm, hlk, hup, h0, h1, h2, h29, h30]
 refine hK81 _ _ ?_
 try clear hK81 K81
 refine T_ret ?_
 try simp only [tR, bR, lR]
 have hcb : cellB x av = false := by
   simp only [cellB, if_neg h0, if_neg h1, if_neg h2, if_pos h29, if_neg h30]
 refine Owes.mono (k := fun r H'' => r = pb false ∧ H'' = H) (fun q H'' h => ⟨by rw [h.1, hcb], av, h.2.trans (setMap_self hm).symm, fun hc => by rw [hcb] at hc; cases hc⟩) ?_
 exact owes_one_at (H1 := H) (.inr rfl) (hwf) (Nat.le_refl _) rfl (by simp [h0, h1, h2, h29, h30]) (by simp (maxDischargeDepth := 20)) (by simp) (by simp)
 refine T_rg ?_
 simp [hm, hlk, hup, h0, h1, h2, h29]
 refine hK2 _ _ ?_
 try clear hK2 K2
 refine T_condT (by first | rfl | simp [h0, h1, h2, h29]) ?_
 refine T_sr fun K82 hK82 => ?_
 simp [hm, hlk, hup, h0, h1, h2, h29]
 refine hK82 _ _ ?_
 try clear hK82 K82
 refine T_ret ?_
 try simp only [tR, bR, lR]
 have hcb : cellB x av = false := by
   simp only [cellB, if_neg h0, if_neg h1, if_neg h2, if_neg h29]
 refine Owes.mono (k := fun r H'' => r = pb false ∧ H'' = H) (fun q H'' h => ⟨by rw [h.1, hcb], av, h.2.trans (setMap_self hm).symm, fun hc => by rw [hcb] at hc; cases hc⟩) ?_
 exact owes_one_at (H1 := H) (.inr rfl) (hwf) (Nat.le_refl _) rfl (by simp [h0, h1, h2, h29]) (by simp (maxDischargeDepth := 20)) (by simp) (by simp)
end Go.Abs
namespace Go.Abs
open Go.Proofs
set_option autoImplicit false
set_option linter.all false
def addrStep (av : List ByteArray) (x : DCell) : List ByteArray := if x.addr = ⟨#[]⟩ then av else addTo av x.addr
def addrs (m : DImage) (i : Nat) : List ByteArray := (m.cells.take i).foldl addrStep []
theorem addrs_succ {m : DImage} {i : Nat} (h : i < m.cells.length) : addrs m (i + 1) = addrStep (addrs m i) (nth m.cells (i : Int)) := by
 unfold addrs
 rw [List.take_succ_eq_append_getElem h, nth_get _ _ h, List.foldl_append]; rfl
theorem addrs_zero (m : DImage) : addrs m 0 = [] := rfl
theorem nx4 (n : Nat) : (n < n + 1 + 1) = True := by simp; omega
def takeJ (xs : List DJob) (i : Nat) : List DJob := xs.take i
theorem takeJ_length (xs : List DJob) (i : Nat) : (takeJ xs i).length ≤ xs.length := by unfold takeJ; simp; omega
theorem cut24 (c : Nat) (xs : List DJob) (i : Nat) (h : i < xs.length) : aCutOp Tryz.prog 24 (PV.sl c 7 (xs.map (DJob.row c))) none (some (pi i)) = some (PV.sl c 7 ((takeJ xs i).map (DJob.row c))) := by
  have hu : Tryz.prog.underlying 24 = some (.slice 55) := by kernel_rfl
  cases xs with
  | nil => simp at h
  | cons x xs =>
    simp only [List.length_cons] at h
    simp [aCutOp, cutOk, hu, PV.sl, aBound, acut, takeJ]
    omega
attribute [local simp ↓] put_at AF.ev_tmp ex_cons ex_nil ex_box ex_assign AF.ev_int ex_fieldAddr ex_load ex_call AF.ev_func ex_unOp ex_len ex_binOp ex_makeMap ex_move ex_indexAddr ex_alloc ex_store ex_extract ex_guard ex_slice ex_makeFunc ex_pick AF.ev_bool
attribute [local simp] abox frame0 nx2 nx3 nx2' bump_setBox setBox_setBox beq_bytes wrap_nn int_beq int_bne DVal.row DOp.row DLook.row DFlat.row DType.row DNeed.row DCell.row eq42 DImage.row DJob.row DLoop.row irow idx22 idx23 idx24 idx45 idx46 idx53 idx9 setMap_setBox setMap_bump aFieldAddr aload partOf aUn aLen aBin aBinV amakeMap aalloc astore splice aExtract AS.Ext.refl AS.Ext.bump AS.Ext.setBox AS.Ext.kill AS.Ext.setMap
def jobE (m : DImage) (n : Nat) : Int := if nameB (nth m.jobs (n : Int)).name = true then (if containsN (takeJ m.jobs n) (nth m.jobs (n : Int)) = true then 6 else if jobB m (nth m.jobs (n : Int)) = true then (0) else 204) else 6
def cellE (m : DImage) (i : Nat) : Int := if cellB (nth m.cells (i : Int)) (addrs m i) = true then (0) else 203
def checkE (m : DImage) : Int := if nameB m.name = true then (if 4096 < (m.cells.length : Int) then 4 else if 64 < (m.codes.length : Int) then 4 else if 16 < (m.jobs.length : Int) then 4 else if errs m.cells.length (cellE m) = 0 then (if (codesE m) = 0 then (if errs m.jobs.length (jobE m) = 0 then 0 else errs m.jobs.length (jobE m)) else (codesE m)) else errs m.cells.length (cellE m)) else 6
set_option maxRecDepth 100000 in
set_option maxHeartbeats 4000000 in
theorem checkIs (H : AS)  (c : Nat) (m : DImage) (hmc : m.cells.length < 2 ^ 62) (hmd : m.codes.length < 2 ^ 62) (hmj : m.jobs.length < 2 ^ 62) (hsz : ∀ f ∈ m.codes, f.ops.length < 2 ^ 62 ∧ f.loops.length < 2 ^ 62) (hsa : ∀ x ∈ m.cells, x.addr.size ≤ 281474976710656) : ACalls Tryz.prog 15 [.agg (m.row c)] H fun q H' => (∃ a b : Int, q = .tuple [pi a, pi b, pi (checkE m)]) ∧ H' = H := by
 refine ACalls_intro Tryz.func15 rfl (by kernel_rfl) (by simp) fun hwf hbel => ?_
 refine T_sr fun K0 hK0 => ?_
 simp
 refine hK0 _ _ ?_
 try clear hK0 K0
 refine T_seqk fun K1 hK1 => ?_
 refine T_block ?_
 refine T_sr fun K2 hK2 => ?_
 simp
 refine callK.of (isNameIs _ m.name) ?_
 rintro _ Hz ⟨rfl, hz⟩
 subst Hz
 simp
 refine hK2 _ _ ?_
 try clear hK2 K2
 by_cases h0 : nameB m.name = true
 refine T_condF (by first | rfl | simp [h0]) ?_
 refine T_sr fun K3 hK3 => ?_
 simp [h0]
 refine hK3 _ _ ?_
 try clear hK3 K3
 by_cases h1 : 4096 < (m.cells.length : Int)
 refine T_condT (by first | rfl | simp [h0, h1]) ?_
 refine T_sr fun K4 hK4 => ?_
 simp [h0, h1]
 refine hK4 _ _ ?_
 try clear hK4 K4
 refine T_ret ?_
 try simp only [tR, bR, lR]
 exact owes_tri (a := 4096) (b := 0) (e := 4) (.inr rfl) hwf rfl (by simp [h0, h1]) (by simp [h0, h1]) (by simp [h0, h1]) (show checkE m = 4 from by
     simp only [checkE, if_pos h0, if_pos h1]) (by simp (maxDischargeDepth := 20))
 refine T_condF (by first | rfl | simp [h0, h1]) ?_
 refine T_sr fun K5 hK5 => ?_
 simp [h0, h1]
 refine hK5 _ _ ?_
 try clear hK5 K5
 by_cases h2 : 64 < (m.codes.length : Int)
 refine T_condT (by first | rfl | simp [h0, h1, h2]) ?_
 refine T_sr fun K6 hK6 => ?_
 simp [h0, h1, h2]
 refine hK6 _ _ ?_
 try clear hK6 K6
 refine T_ret ?_
 try simp only [tR, bR, lR]
 exact owes_tri (a := 64) (b := 0) (e := 4) (.inr rfl) hwf rfl (by simp [h0, h1, h2]) (by simp [h0, h1, h2]) (by simp [h0, h1, h2]) (show checkE m = 4 from by
     simp only [checkE, if_pos h0, if_neg h1, if_pos h2]) (by simp (maxDischargeDepth := 20))
 refine T_condF (by first | rfl | simp [h0, h1, h2]) ?_
 refine T_sr fun K7 hK7 => ?_
 simp [h0, h1, h2]
 refine hK7 _ _ ?_
 try clear hK7 K7
 by_cases h3 : 16 < (m.jobs.length : Int)
 refine T_condT (by first | rfl | simp [h0, h1, h2, h3]) ?_
 refine T_sr fun K8 hK8 => ?_
 simp [h0, h1, h2, h3]
 refine hK8 _ _ ?_
 try clear hK8 K8
 refine T_ret ?_
 try simp only [tR, bR, lR]
 exact owes_tri (a := 16) (b := 0) (e := 4) (.inr rfl) hwf rfl (by simp [h0, h1, h2, h3]) (by simp [h0, h1, h2, h3]) (by simp [h0, h1, h2, h3]) (show checkE m = 4 from by
     simp only [checkE, if_pos h0, if_neg h1, if_neg h2, if_pos h3]) (by simp (maxDischargeDepth := 20))
 refine T_condF (by first | rfl | simp [h0, h1, h2, h3]) ?_
 refine T_skip ?_
 try simp only [tN, bN, lN]
 refine hK1 _ _ ?_
 try clear hK1 K1
 refine T_sr fun K9 hK9 => ?_
 simp [h0, h1, h2, h3]
 refine hK9 _ _ ?_
 try clear hK9 K9
 refine T_seqk fun K10 hK10 => ?_
 refine T_sr fun K11 hK11 => ?_
 simp [h0, h1, h2, h3]
 refine hK11 _ _ ?_
 try clear hK11 K11
 refine T_block ?_
 refine T_loop (fun k F H' => ∃ i : Nat, k = m.cells.length - i ∧ i ≤ m.cells.length ∧ F 1 = .ptr H.next 1 0 0 ∧ F 5 = .map (H.next + 1) ∧ F 35 = PV.sl c 11 (m.cells.map DCell.row) ∧ F 36 = pi m.cells.length ∧ F 37 = pi i ∧ H.Ext H' ∧ H.next < H'.next ∧ H'.box H.next = some [m.row c] ∧ H'.mp (H.next + 1) = some ((addrs m i).map ent) ∧ ∀ y : Nat, y < i → cellE m y = 0) (m.cells.length) ?_ ?_
 refine ⟨0, ?_⟩
 simp (maxDischargeDepth := 20) [addrs_zero, nx4, h0, h1, h2, h3]
 rintro k F H1 ⟨i, rfl, hi, g1, g5, g35, g36, g37, hext, hn1, m0, mm, hall⟩
 have hnx := hext.next
 have hne : (H.next = H1.next) = False := by simp; omega
 have hne2 : (H1.next = H.next) = False := by simp; omega
 refine T_sr fun K12 hK12 => ?_
 simp [g1, g5, g35, g36, g37, hext, hn1, m0, mm, hne, hne2, h0, h1, h2, h3]
 refine hK12 _ _ ?_
 try clear hK12 K12
 refine T_seqk fun K13 hK13 => ?_
 by_cases h4 : i < m.cells.length
 refine T_condT (by first | rfl | simp [h0, h1, h2, h3, h4]) ?_
 refine T_skip ?_
 try simp only [tN, bN, lN]
 refine hK13 _ _ ?_
 try clear hK13 K13
 refine T_seqk fun K14 hK14 => ?_
 refine T_block ?_
 refine T_sr fun K15 hK15 => ?_
 simp [g1, g5, g35, g36, g37, hext, hn1, m0, mm, hne, hne2, h0, h1, h2, h3, h4]
 refine hK15 _ _ ?_
 try clear hK15 K15
 refine T_sr fun K16 hK16 => ?_
 have hlt : i < m.cells.length := h4
 simp [g1, g5, g35, g36, g37, hext, hn1, m0, mm, hne, hne2, h0, h1, h2, h3, h4]
 refine callK.of (cellIsB _ (nth m.cells (i : Int)) (H.next + 1) (addrs m i) (by simp [mm]) (hsa _ (nth_mem hlt))) ?_
 rintro _ H2 ⟨rfl, av', rfl, hav⟩
 simp [g1, g5, g35, g36, g37, hext, hn1, m0, mm, hne, hne2, h0, h1, h2, h3, h4]
 refine hK16 _ _ ?_
 try clear hK16 K16
 by_cases h5 : cellB (nth m.cells (i : Int)) (addrs m i) = true
 refine T_condF (by first | rfl | simp [h0, h1, h2, h3, h4, h5]) ?_
 refine T_skip ?_
 try simp only [tN, bN, lN]
 refine hK14 _ _ ?_
 try clear hK14 K14
 refine T_rg ?_
 simp [g1, g5, g35, g36, g37, hext, hn1, m0, mm, hne, hne2, h0, h1, h2, h3, h4, h5]
 have hx : cellE m i = 0 := by
   simp only [cellE, if_pos h5]
 refine ⟨m.cells.length - (i + 1), by omega, i + 1, by omega, by omega, by rw [wrap_i64 (by omega) (by omega)]; rfl, by simp (maxDischargeDepth := 20) [hext, hnx], by omega, by rw [hav (by assumption), addrs_succ hlt]; rfl, fun y hy => ?_⟩
 by_cases e : y = i
 subst e; exact hx
 exact hall y (by omega)
 refine T_condT (by first | rfl | simp [h0, h1, h2, h3, h4, h5]) ?_
 refine T_sr fun K17 hK17 => ?_
 simp [g1, g5, g35, g36, g37, hext, hn1, m0, mm, hne, hne2, h0, h1, h2, h3, h4, h5]
 refine hK17 _ _ ?_
 try clear hK17 K17
 refine T_ret ?_
 try simp only [tR, bR, lR]
 have hlei : errs m.cells.length (cellE m) = 203 := errs_bad hall (by omega) (by
     simp only [cellE, if_neg h5]) (by decide)
 have hnei : ¬ errs m.cells.length (cellE m) = 0 := by rw [hlei]; decide
 exact owes_tri (a := (i : Int)) (b := 0) (e := 203) (.inr rfl) hwf rfl (by simp [g1, g5, g35, g36, g37, hext, hn1, m0, mm, hne, hne2, h0, h1, h2, h3, hnei]) (by simp [g1, g5, g35, g36, g37, hext, hn1, m0, mm, hne, hne2, h0, h1, h2, h3, hnei]) (by simp [g1, g5, g35, g36, g37, hext, hn1, m0, mm, hne, hne2, h0, h1, h2, h3, hnei]) (show checkE m = 203 from by
     simp only [checkE, if_pos h0, if_neg h1, if_neg h2, if_neg h3, if_neg hnei]
     exact hlei) (by simp (maxDischargeDepth := 20) [hext, hnx])
 have hge : i = m.cells.length := by omega
 have hl4 : errs m.cells.length (cellE m) = 0 := errs_ok hall hge
 refine T_condF (by first | rfl | simp [h0, h1, h2, h3, h4, hl4]) ?_
 refine T_exit ?_
 try simp only [tE, bE, lE, if_true, Nat.reduceEqDiff, if_false, reduceIte, tN, bN, lN]
 refine hK10 _ _ ?_
 try clear hK10 K10
 refine T_seqk fun K18 hK18 => ?_
 refine T_sr fun K19 hK19 => ?_
 simp [g1, g5, g35, g36, g37, hext, hn1, m0, mm, hne, hne2, h0, h1, h2, h3, h4, hl4]
 refine callK.of (codesIs _ c m (by omega) (by omega) hsz) ?_
 rintro _ Hz ⟨⟨ca, cb, rfl⟩, hz⟩
 subst Hz
 simp [g1, g5, g35, g36, g37, hext, hn1, m0, mm, hne, hne2, h0, h1, h2, h3, h4, hl4]
 refine hK19 _ _ ?_
 try clear hK19 K19
 refine T_sr fun K20 hK20 => ?_
 simp [g1, g5, g35, g36, g37, hext, hn1, m0, mm, hne, hne2, h0, h1, h2, h3, h4, hl4]
 refine hK20 _ _ ?_
 try clear hK20 K20
 by_cases h6 : (codesE m) = 0
 refine T_condF (by first | rfl | simp [h0, h1, h2, h3, h4, hl4, h6]) ?_
 refine T_skip ?_
 try simp only [tN, bN, lN]
 refine hK18 _ _ ?_
 try clear hK18 K18
 refine T_seqk fun K21 hK21 => ?_
 refine T_sr fun K22 hK22 => ?_
 simp [g1, g5, g35, g36, g37, hext, hn1, m0, mm, hne, hne2, h0, h1, h2, h3, h4, hl4, h6]
 refine hK22 _ _ ?_
 try clear hK22 K22
 refine T_block ?_
 refine T_loop (fun k F H' => ∃ n : Nat, k = m.jobs.length - n ∧ n ≤ m.jobs.length ∧ F 1 = .ptr H.next 1 0 0 ∧ F 60 = PV.sl c 7 (m.jobs.map (DJob.row c)) ∧ F 61 = pi m.jobs.length ∧ F 62 = pi n ∧ H.Ext H' ∧ H.next < H'.next ∧ H'.box H.next = some [m.row c] ∧ ∀ y : Nat, y < n → jobE m y = 0) (m.jobs.length) ?_ ?_
 refine ⟨0, ?_⟩
 simp (maxDischargeDepth := 20) [g1, g5, g35, g36, g37, hext, hn1, m0, mm, hne, hne2, hext, hnx, h0, h1, h2, h3, h4, hl4, h6]
 rintro k F H2 ⟨n, rfl, hi2, g1, g60, g61, g62, hext2, hn2, m02, hall2⟩
 have hnx2 := hext2.next
 have hne3 : (H.next = H2.next) = False := by simp; omega
 have hne4 : (H2.next = H.next) = False := by simp; omega
 refine T_sr fun K23 hK23 => ?_
 simp [g1, g60, g61, g62, hext2, hn2, m02, hne3, hne4, h0, h1, h2, h3, h4, hl4, h6]
 refine hK23 _ _ ?_
 try clear hK23 K23
 refine T_seqk fun K24 hK24 => ?_
 by_cases h7 : n < m.jobs.length
 refine T_condT (by first | rfl | simp [h0, h1, h2, h3, h4, hl4, h6, h7]) ?_
 refine T_skip ?_
 try simp only [tN, bN, lN]
 refine hK24 _ _ ?_
 try clear hK24 K24
 refine T_seqk fun K25 hK25 => ?_
 refine T_block ?_
 refine T_sr fun K26 hK26 => ?_
 simp [g1, g60, g61, g62, hext2, hn2, m02, hne3, hne4, h0, h1, h2, h3, h4, hl4, h6, h7]
 refine hK26 _ _ ?_
 try clear hK26 K26
 refine T_seqk fun K27 hK27 => ?_
 refine T_seqk fun K28 hK28 => ?_
 by_cases h8 : nameB (nth m.jobs (n : Int)).name = true
 refine T_rg ?_
 have hlt : n < m.jobs.length := h7
 simp [g1, g60, g61, g62, hext2, hn2, m02, hne3, hne4, h0, h1, h2, h3, h4, hl4, h6, h7, h8, cut24 c m.jobs n hlt]
 refine callK.of (isNameIs _ (nth m.jobs (n : Int)).name) ?_
 rintro _ Hz ⟨rfl, hz⟩
 subst Hz
 simp [g1, g60, g61, g62, hext2, hn2, m02, hne3, hne4, h0, h1, h2, h3, h4, hl4, h6, h7, h8, cut24 c m.jobs n hlt]
 refine callK.of (containsIs _ c H2.next (takeJ m.jobs n) (nth m.jobs (n : Int)) (by simp) (Nat.lt_of_le_of_lt (takeJ_length _ _) hmj)) ?_
 rintro _ Hz ⟨rfl, hz⟩
 subst Hz
 simp [g1, g60, g61, g62, hext2, hn2, m02, hne3, hne4, h0, h1, h2, h3, h4, hl4, h6, h7, h8, cut24 c m.jobs n hlt]
 refine hK28 _ _ ?_
 try clear hK28 K28
 by_cases h9 : containsN (takeJ m.jobs n) (nth m.jobs (n : Int)) = true
 refine T_condT (by first | rfl | simp [h0, h1, h2, h3, h4, hl4, h6, h7, h8, h9]) ?_
 refine T_sr fun K29 hK29 => ?_
 simp [g1, g60, g61, g62, hext2, hn2, m02, hne3, hne4, h0, h1, h2, h3, h4, hl4, h6, h7, h8, h9]
 refine hK29 _ _ ?_
 try clear hK29 K29
 refine T_ret ?_
 try simp only [tR, bR, lR]
 have hlen : errs m.jobs.length (jobE m) = 6 := errs_bad hall2 (by omega) (by
     simp only [jobE, if_pos h8, if_pos h9]) (by decide)
 have hnen : ¬ errs m.jobs.length (jobE m) = 0 := by rw [hlen]; decide
 exact owes_tri (a := (n : Int)) (b := 0) (e := 6) (.inr rfl) hwf rfl (by simp [g1, g60, g61, g62, hext2, hn2, m02, hne3, hne4, h0, h1, h2, h3, h4, hl4, h6, hnen]) (by simp [g1, g60, g61, g62, hext2, hn2, m02, hne3, hne4, h0, h1, h2, h3, h4, hl4, h6, hnen]) (by simp [g1, g60, g61, g62, hext2, hn2, m02, hne3, hne4, h0, h1, h2, h3, h4, hl4, h6, hnen]) (show checkE m = 6 from by
     simp only [checkE, if_pos h0, if_neg h1, if_neg h2, if_neg h3, if_neg h4, if_pos hl4, if_pos h6, if_neg hnen]
     exact hlen) (by simp (maxDischargeDepth := 20) [hext2, hnx2])
 refine T_condF (by first | rfl | simp [h0, h1, h2, h3, h4, hl4, h6, h7, h8, h9]) ?_
 refine T_skip ?_
 try simp only [tN, bN, lN]
 refine hK27 _ _ ?_
 try clear hK27 K27
 refine T_sr fun K30 hK30 => ?_
 simp [g1, g60, g61, g62, hext2, hn2, m02, hne3, hne4, h0, h1, h2, h3, h4, hl4, h6, h7, h8, h9]
 refine callK.of (jobIsB _ c m (nth m.jobs (n : Int)) hmc hmd) ?_
 rintro _ Hz ⟨rfl, hz⟩
 subst Hz
 simp [g1, g60, g61, g62, hext2, hn2, m02, hne3, hne4, h0, h1, h2, h3, h4, hl4, h6, h7, h8, h9]
 refine hK30 _ _ ?_
 try clear hK30 K30
 by_cases h10 : jobB m (nth m.jobs (n : Int)) = true
 refine T_condF (by first | rfl | simp [h0, h1, h2, h3, h4, hl4, h6, h7, h8, h9, h10]) ?_
 refine T_skip ?_
 try simp only [tN, bN, lN]
 refine hK25 _ _ ?_
 try clear hK25 K25
 refine T_rg ?_
 simp [g1, g60, g61, g62, hext2, hn2, m02, hne3, hne4, h0, h1, h2, h3, h4, hl4, h6, h7, h8, h9, h10]
 have hx : jobE m n = 0 := by
   simp only [jobE, if_pos h8, if_neg h9, if_pos h10]
 refine ⟨m.jobs.length - (n + 1), by omega, n + 1, by omega, by omega, by rw [wrap_i64 (by omega) (by omega)]; rfl, by simp (maxDischargeDepth := 20) [hext2, hnx2], by omega, fun y hy => ?_⟩
 by_cases e : y = n
 subst e; exact hx
 exact hall2 y (by omega)
 refine T_condT (by first | rfl | simp [h0, h1, h2, h3, h4, hl4, h6, h7, h8, h9, h10]) ?_
 refine T_sr fun K31 hK31 => ?_
 simp [g1, g60, g61, g62, hext2, hn2, m02, hne3, hne4, h0, h1, h2, h3, h4, hl4, h6, h7, h8, h9, h10]
 refine hK31 _ _ ?_
 try clear hK31 K31
 refine T_ret ?_
 try simp only [tR, bR, lR]
 have hlen : errs m.jobs.length (jobE m) = 204 := errs_bad hall2 (by omega) (by
     simp only [jobE, if_pos h8, if_neg h9, if_neg h10]) (by decide)
 have hnen : ¬ errs m.jobs.length (jobE m) = 0 := by rw [hlen]; decide
 exact owes_tri (a := (n : Int)) (b := 0) (e := 204) (.inr rfl) hwf rfl (by simp [g1, g60, g61, g62, hext2, hn2, m02, hne3, hne4, h0, h1, h2, h3, h4, hl4, h6, hnen]) (by simp [g1, g60, g61, g62, hext2, hn2, m02, hne3, hne4, h0, h1, h2, h3, h4, hl4, h6, hnen]) (by simp [g1, g60, g61, g62, hext2, hn2, m02, hne3, hne4, h0, h1, h2, h3, h4, hl4, h6, hnen]) (show checkE m = 204 from by
     simp only [checkE, if_pos h0, if_neg h1, if_neg h2, if_neg h3, if_neg h4, if_pos hl4, if_pos h6, if_neg hnen]
     exact hlen) (by simp (maxDischargeDepth := 20) [hext2, hnx2])
 refine T_rg ?_
 have hlt : n < m.jobs.length := h7
 simp [g1, g60, g61, g62, hext2, hn2, m02, hne3, hne4, h0, h1, h2, h3, h4, hl4, h6, h7, h8, cut24 c m.jobs n hlt]
 refine callK.of (isNameIs _ (nth m.jobs (n : Int)).name) ?_
 rintro _ Hz ⟨rfl, hz⟩
 subst Hz
 simp [g1, g60, g61, g62, hext2, hn2, m02, hne3, hne4, h0, h1, h2, h3, h4, hl4, h6, h7, h8, cut24 c m.jobs n hlt]
 refine hK28 _ _ ?_
 try clear hK28 K28
 refine T_condT (by first | rfl | simp [h0, h1, h2, h3, h4, hl4, h6, h7, h8]) ?_
 refine T_sr fun K32 hK32 => ?_
 simp [g1, g60, g61, g62, hext2, hn2, m02, hne3, hne4, h0, h1, h2, h3, h4, hl4, h6, h7, h8]
 refine hK32 _ _ ?_
 try clear hK32 K32
 refine T_ret ?_
 try simp only [tR, bR, lR]
 have hlen : errs m.jobs.length (jobE m) = 6 := errs_bad hall2 (by omega) (by
     simp only [jobE, if_neg h8]) (by decide)
 have hnen : ¬ errs m.jobs.length (jobE m) = 0 := by rw [hlen]; decide
 exact owes_tri (a := (n : Int)) (b := 0) (e := 6) (.inr rfl) hwf rfl (by simp [g1, g60, g61, g62, hext2, hn2, m02, hne3, hne4, h0, h1, h2, h3, h4, hl4, h6, hnen]) (by simp [g1, g60, g61, g62, hext2, hn2, m02, hne3, hne4, h0, h1, h2, h3, h4, hl4, h6, hnen]) (by simp [g1, g60, g61, g62, hext2, hn2, m02, hne3, hne4, h0, h1, h2, h3, h4, hl4, h6, hnen]) (show checkE m = 6 from by
     simp only [checkE, if_pos h0, if_neg h1, if_neg h2, if_neg h3, if_neg h4, if_pos hl4, if_pos h6, if_neg hnen]
     exact hlen) (by simp (maxDischargeDepth := 20) [hext2, hnx2])
 have hge2 : n = m.jobs.length := by omega
 have hl7 : errs m.jobs.length (jobE m) = 0 := errs_ok hall2 hge2
 refine T_condF (by first | rfl | simp [h0, h1, h2, h3, h4, hl4, h6, h7, hl7]) ?_
 refine T_exit ?_
 try simp only [tE, bE, lE, if_true, Nat.reduceEqDiff, if_false, reduceIte, tN, bN, lN]
 refine hK21 _ _ ?_
 try clear hK21 K21
 refine T_sr fun K33 hK33 => ?_
 simp [g1, g60, g61, g62, hext2, hn2, m02, hne3, hne4, h0, h1, h2, h3, h4, hl4, h6, h7, hl7]
 refine hK33 _ _ ?_
 try clear hK33 K33
 refine T_ret ?_
 try simp only [tR, bR, lR]
 exact owes_tri (a := 0) (b := 0) (e := 0) (.inr rfl) hwf rfl (by simp [g1, g60, g61, g62, hext2, hn2, m02, hne3, hne4, h0, h1, h2, h3, h4, hl4, h6, h7, hl7]) (by simp [g1, g60, g61, g62, hext2, hn2, m02, hne3, hne4, h0, h1, h2, h3, h4, hl4, h6, h7, hl7]) (by simp [g1, g60, g61, g62, hext2, hn2, m02, hne3, hne4, h0, h1, h2, h3, h4, hl4, h6, h7, hl7]) (show checkE m = 0 from by
     simp only [checkE, if_pos h0, if_neg h1, if_neg h2, if_neg h3, if_neg h4, if_pos hl4, if_pos h6, if_neg h7, if_pos hl7]) (by simp (maxDischargeDepth := 20) [hext2, hnx2])
 refine T_condT (by first | rfl | simp [h0, h1, h2, h3, h4, hl4, h6]) ?_
 refine T_sr fun K34 hK34 => ?_
 simp [g1, g5, g35, g36, g37, hext, hn1, m0, mm, hne, hne2, h0, h1, h2, h3, h4, hl4, h6]
 refine hK34 _ _ ?_
 try clear hK34 K34
 refine T_ret ?_
 try simp only [tR, bR, lR]
 exact owes_tri (a := ca) (b := cb) (e := (codesE m)) (.inr rfl) hwf rfl (by simp [g1, g5, g35, g36, g37, hext, hn1, m0, mm, hne, hne2, h0, h1, h2, h3, h4, hl4, h6]) (by simp [g1, g5, g35, g36, g37, hext, hn1, m0, mm, hne, hne2, h0, h1, h2, h3, h4, hl4, h6]) (by simp [g1, g5, g35, g36, g37, hext, hn1, m0, mm, hne, hne2, h0, h1, h2, h3, h4, hl4, h6]) (show checkE m = (codesE m) from by
     simp only [checkE, if_pos h0, if_neg h1, if_neg h2, if_neg h3, if_neg h4, if_pos hl4, if_neg h6]) (by simp (maxDischargeDepth := 20) [hext, hnx])
 refine T_condT (by first | rfl | simp [h0]) ?_
 refine T_sr fun K35 hK35 => ?_
 simp [h0]
 refine hK35 _ _ ?_
 try clear hK35 K35
 refine T_ret ?_
 try simp only [tR, bR, lR]
 exact owes_tri (a := 0) (b := 0) (e := 6) (.inr rfl) hwf rfl (by simp [h0]) (by simp [h0]) (by simp [h0]) (show checkE m = 6 from by
     simp only [checkE, if_neg h0]) (by simp (maxDischargeDepth := 20))
end Go.Abs
namespace Go.Abs
open Go.Proofs
set_option autoImplicit false
set_option linter.all false
set_option maxRecDepth 100000
theorem errs_zero {n : Nat} {g : Nat → Int} (h : errs n g = 0) : ∀ i, i < n → g i = 0 := by
  intro i hi
  rcases Classical.em (g i = 0) with e | e
  exact e
  exfalso
  unfold errs at h
  cases hf : ((List.range n).map g).find? (fun e => decide (e ≠ 0)) with
  | none =>
    have := List.find?_eq_none.1 hf (g i) (List.mem_map.2 ⟨i, List.mem_range.2 hi, rfl⟩)
    simp [e] at this
  | some x =>
    have := List.find?_some hf
    rw [hf] at h
    simp at h this
    exact this h
theorem nameB_size {s : ByteArray} (h : nameB s = true) : s.size ≤ 24 := by
 unfold nameB at h
 split at h
 cases h
 split at h
 cases h
 omega
theorem mayV_size {v : DVal} (h : mayV v = true) : v.text.size ≤ 254 := by
 have hnil : v.text = ⟨#[]⟩ → v.text.size ≤ 254 := fun e => by rw [e]; decide
 unfold mayV at h
 repeat' split at h
 all_goals first
   | contradiction
   | omega
   | exact hnil (by assumption)
theorem fitsT_size {t : DType} {v : DVal} (h : fitsT t v = 0) : v.text.size ≤ 254 := by
 have key : mayV v = true := by
   unfold fitsT at h
   rcases Classical.em (mayV v = true) with e | e
   · exact e
   · exfalso
     simp only [e] at h
     repeat' split at h
     all_goals first | contradiction | omega
 exact mayV_size key
theorem eqv_size {k b k' b' : Int} {t : ByteArray} (h : eqv k b t k' b' ⟨#[]⟩ = true) : t.size ≤ 254 := by
 simp [eqv] at h
 rw [h.2]; decide
theorem zeroB_size {n : DNeed} {o : DOp} (h : zeroB n o = true) (hv : n.value = true) : o.value.text.size ≤ 254 := by
 rcases Classical.em (eqv o.value.kind o.value.bits o.value.text 0 0 ⟨#[]⟩ = true) with e | e
 exact eqv_size e
 exfalso
 simp [zeroB, hv, e] at h
theorem zeroB_text {n : DNeed} {o o' : DOp} (hv : n.value = true) (hn : ¬ o'.value.text.size ≤ 254) (ho : o.value = o'.value) : zeroB n o = false := by
  cases e : zeroB n o with
  | false => rfl
  | true => exact absurd (ho ▸ zeroB_size e hv) hn
theorem flowB_size {k : DLook} {o : DOp} (h : flowB k o = true) : o.value.text.size ≤ 254 := by
 rcases Classical.em (o.value.text.size ≤ 254) with e | e
 exact e
 exfalso
 have hz : ∀ (a b c d x : Bool) (o' : DOp), o'.value = o.value → zeroB { a := a, b := b, c := c, d := d, bounds := x, value := true } o' = false := fun a b c d x o' ho => zeroB_text rfl e ho
 simp [flowB, hz] at h
theorem mayO_size {k : DLook} {o : DOp} (h : mayO k o = true) : o.value.text.size ≤ 254 := by
 rcases Classical.em (o.value.text.size ≤ 254) with e | e
 exact e
 exfalso
 have hz : ∀ (a b c d x : Bool) (o' : DOp), o'.value = o.value → zeroB { a := a, b := b, c := c, d := d, bounds := x, value := true } o' = false := fun a b c d x o' ho => zeroB_text rfl e ho
 have hm : mayV o.value = false := Bool.eq_false_iff.2 fun x => e (mayV_size x)
 have he : eqv o.value.kind o.value.bits o.value.text 20 0 ⟨#[]⟩ = false := Bool.eq_false_iff.2 fun x => e (eqv_size x)
 have hf : flowB k o = false := Bool.eq_false_iff.2 fun x => e (flowB_size x)
 simp [mayO, hz, hm, he, hf] at h
theorem addrR_size {s : ByteArray} (h : (addrR s).2.2 = true) : s.size ≤ 9 := by
 rcases Classical.em (s.size ≤ 9) with e | e
 exact e
 exfalso
 have z1 := tl3_size s
 have z2 := dl2_size (tl3 s)
 have h1 : (4 : Int) < ((tl3 s).size : Int) := by omega
 have h2 : (4 : Int) < ((dl2 (tl3 s)).size : Int) := by omega
 simp [addrR, h1, h2] at h
theorem addrR_dir (s : ByteArray) : 0 ≤ (addrR s).2.1 ∧ (addrR s).2.1 ≤ 2 := by
 have hd : indexB ⟨#[77, 73, 81]⟩ (byteAt s 1) < 3 := indexByte_lt _ _
 rcases Classical.em (indexB ⟨#[77, 73, 81]⟩ (byteAt s 1) < 0) with e | e
 have : (addrR s).2.1 = 0 := by simp [addrR, e]
 omega
 have key : (addrR s).2.1 = 0 ∨ (addrR s).2.1 = indexB ⟨#[77, 73, 81]⟩ (byteAt s 1) := by
   have ip : ∀ (c : Prop) [Decidable c] (a b d : Int), (a = 0 ∨ a = d) → (b = 0 ∨ b = d) → ((if c then a else b) = 0 ∨ (if c then a else b) = d) := fun c _ a b d ha hb => by
     split
     · exact ha
     · exact hb
   simp only [addrR, apply_ite (f := Prod.snd), apply_ite (f := Prod.fst)]
   generalize indexB ⟨#[77, 73, 81]⟩ (byteAt s 1) = d
   repeat' apply ip
   all_goals first | exact .inl rfl | exact .inr rfl
 omega
theorem cellB_ok {x : DCell} {av : List ByteArray} (h : cellB x av = true) : x.init.text.size ≤ 254 ∧ x.addr.size ≤ 9 ∧ 0 ≤ x.dir ∧ x.dir ≤ 2 := by
 refine ⟨?_, ?_⟩
 rcases Classical.em (x.init.text.size ≤ 254) with e | e
 exact e
 exfalso
 have hf : ∀ t : DType, ¬ fitsT t x.init = 0 := fun t q => e (fitsT_size q)
 have he : eqv x.init.kind x.init.bits x.init.text 20 0 ⟨#[]⟩ = false := Bool.eq_false_iff.2 fun q => e (eqv_size q)
 simp [cellB, hf, he] at h
 rcases Classical.em (x.addr = ⟨#[]⟩) with ea | ea
 rcases Classical.em (x.dir = 0) with ed | ed
 rw [ea, ed]; decide
 exfalso
 simp [cellB, ea, ed] at h
 rcases Classical.em ((addrR x.addr).2.2 = true) with er | er
 rcases Classical.em ((addrR x.addr).2.1 = x.dir) with ed | ed
 have := addrR_dir x.addr
 exact ⟨addrR_size er, by omega, by omega⟩
 exfalso
 simp [cellB, ea, ed] at h
 exfalso
 simp [cellB, ea, er] at h
theorem check_ok {m : DImage} (h : checkE m = 0) : nameB m.name = true ∧ m.cells.length ≤ 4096 ∧ m.codes.length ≤ 64 ∧ m.jobs.length ≤ 16 ∧ (∀ i, i < m.cells.length → cellE m i = 0) ∧ codesE m = 0 ∧ ∀ i, i < m.jobs.length → jobE m i = 0 := by
 unfold checkE at h
 split at h
 split at h
 cases h
 split at h
 cases h
 split at h
 cases h
 split at h
 rename_i e1
 split at h
 rename_i e2
 split at h
 rename_i e3
 exact ⟨by assumption, by omega, by omega, by omega, errs_zero e1, e2, errs_zero e3⟩
 exact absurd h (by assumption)
 exact absurd h (by assumption)
 exact absurd h (by assumption)
 cases h
theorem codes_ok {m : DImage} (h : codesE m = 0) : ∀ i, i < m.codes.length → codeE m i = 0 := by
 unfold codesE at h
 split at h
 rename_i e; exact errs_zero e
 exact absurd h (by assumption)
structure OkCode (f : DFlat) : Prop where
  name : f.name.size ≤ 24
  ops : f.ops.length ≤ 16384
  loops : f.loops.length ≤ 16384
  texts : ∀ o ∈ f.ops, o.value.text.size ≤ 254
structure OkCell (x : DCell) : Prop where
  text : x.init.text.size ≤ 254
  addr : x.addr.size ≤ 9
  lo : 0 ≤ x.dir
  hi : x.dir ≤ 2
structure OkJob (j : DJob) : Prop where
  name : j.name.size ≤ 24
  codes : j.codes.length ≤ 32
  bases : j.bases.length ≤ 32
structure OkImg (m : DImage) : Prop where
  name : m.name.size ≤ 24
  ncells : m.cells.length ≤ 4096
  ncodes : m.codes.length ≤ 64
  njobs : m.jobs.length ≤ 16
  cells : ∀ x ∈ m.cells, OkCell x
  codes : ∀ f ∈ m.codes, OkCode f
  jobs : ∀ j ∈ m.jobs, OkJob j
theorem nth_of_mem {α : Type} [Inhabited α] {xs : List α} {x : α} (h : x ∈ xs) : ∃ i, i < xs.length ∧ nth xs (i : Int) = x := by
 obtain ⟨i, hi, rfl⟩ := List.getElem_of_mem h
 exact ⟨i, hi, nth_get xs i hi⟩
theorem tot_ge {m : DImage} {i : Nat} (h : i < m.codes.length) : (nth m.codes (i : Int)).ops.length ≤ totN m (i + 1) := by
 rw [totN_succ h]; omega
theorem codeE_ok {m : DImage} {i : Nat} (hi : i < m.codes.length) (h : codeE m i = 0) : OkCode (nth m.codes (i : Int)) := by
 unfold codeE at h
 have ht := tot_ge hi
 split at h
 rename_i e1
 split at h
 split at h
 cases h
 split at h
 cases h
 split at h
 rename_i e2
 refine ⟨nameB_size e1, by omega, by omega, fun o ho => ?_⟩
 rw [List.all_eq_true] at e2
 have := e2 o ho
 unfold opsB at this
 split at this
 exact mayO_size (by assumption)
 cases this
 cases h
 cases h
 cases h
theorem jobB_ok {m : DImage} {j : DJob} (h : jobB m j = true) : j.codes.length ≤ 32 ∧ j.bases.length ≤ 32 := by
 rcases Classical.em (j.codes.length = j.bases.length) with e | e
 rcases Classical.em (32 < (j.bases.length : Int)) with e2 | e2
 exfalso
 simp [jobB, e, e2] at h
 omega
 exfalso
 simp [jobB, e] at h
theorem okImg {m : DImage} (h : checkE m = 0) : OkImg m := by
 obtain ⟨h1, h2, h3, h4, h5, h6, h7⟩ := check_ok h
 refine ⟨nameB_size h1, h2, h3, h4, fun x hx => ?_, fun f hf => ?_, fun j hj => ?_⟩
 obtain ⟨i, hi, rfl⟩ := nth_of_mem hx
 have := h5 i hi
 unfold cellE at this
 split at this
 rename_i e
 obtain ⟨a, b, c, d⟩ := cellB_ok e
 exact ⟨a, b, c, d⟩
 cases this
 obtain ⟨i, hi, rfl⟩ := nth_of_mem hf
 exact codeE_ok hi (codes_ok h6 i hi)
 obtain ⟨i, hi, rfl⟩ := nth_of_mem hj
 have := h7 i hi
 unfold jobE at this
 split at this
 rename_i e
 split at this
 cases this
 split at this
 obtain ⟨a, b⟩ := jobB_ok (by assumption)
 exact ⟨nameB_size e, a, b⟩
 cases this
 cases this
theorem flatMap_le {α : Type} {f : α → List UInt8} {k : Nat} : ∀ {xs : List α}, (∀ x ∈ xs, (f x).length ≤ k) → (xs.flatMap f).length ≤ xs.length * k
  | [], _ => by simp
  | x :: xs, h => by
    have h1 := h x (by simp)
    have h2 := flatMap_le (xs := xs) (fun y hy => h y (by simp [hy]))
    simp only [List.flatMap_cons, List.length_append, List.length_cons, Nat.succ_mul]
    omega
theorem encNum_len (n : Int) : (encNum n).length = 8 := by simp [encNum]
theorem encText_len (s : ByteArray) : (encText s).length = 8 + s.size := by simp [encText, encNum_len]
theorem encNums_len (ns : List Int) : (encNums ns).length = 8 * ns.length := by
  unfold encNums
  induction ns with
  | nil => rfl
  | cons n ns ih => simp only [List.flatMap_cons, List.length_append, encNum_len, ih, List.length_cons]; omega
theorem encVal_len (v : DVal) : (encVal v).length = 17 + v.text.size := by
 simp only [encVal, List.cons_append, List.length_cons, List.length_append, encNum_len, encText_len]; omega
theorem encCell_len (x : DCell) : (encCell x).length = 53 + x.init.text.size + x.addr.size := by
 simp only [encCell, List.length_append, encVal_len, encNums_len, encText_len, List.length_cons, List.length_nil]; omega
theorem encOp_len (x : DOp) : (encOp x).length = 73 + x.value.text.size := by
 simp only [encOp, List.length_append, encVal_len, encNums_len, List.length_cons, List.length_nil]; omega
theorem encLoop_len (x : DLoop) : (encLoop x).length = 24 := by simp only [encLoop, encNums_len, List.length_cons, List.length_nil]
theorem encJob_len (x : DJob) : (encJob x).length = 56 + x.name.size + 8 * x.codes.length + 8 * x.bases.length := by
 simp only [encJob, List.length_append, encNums_len, encNum_len, encText_len, List.length_cons, List.length_nil]; omega
theorem encFlat_le {x : DFlat} (h : OkCode x) : (encFlat x).length ≤ 2 ^ 25 := by
 have h1 := flatMap_le (f := encOp) (k := 327) (xs := x.ops) (fun o ho => by rw [encOp_len]; have := h.texts o ho; omega)
 have h2 := flatMap_le (f := encLoop) (k := 24) (xs := x.loops) (fun o ho => by rw [encLoop_len]; omega)
 have := h.name; have := h.ops; have := h.loops
 simp only [encFlat, List.length_append, encNums_len, encNum_len, encText_len, List.length_cons, List.length_nil]
 omega
theorem encImage_le {m : DImage} (h : OkImg m) : (encImage m).length ≤ 2 ^ 33 := by
 have h1 := flatMap_le (f := encCell) (k := 400) (xs := m.cells) (fun o ho => by rw [encCell_len]; have := (h.cells o ho).text; have := (h.cells o ho).addr; omega)
 have h2 := flatMap_le (f := encFlat) (k := 2 ^ 25) (xs := m.codes) (fun o ho => encFlat_le (h.codes o ho))
 have h3 := flatMap_le (f := encJob) (k := 1000) (xs := m.jobs) (fun o ho => by rw [encJob_len]; have := (h.jobs o ho).name; have := (h.jobs o ho).codes; have := (h.jobs o ho).bases; omega)
 have := h.name; have := h.ncells; have := h.ncodes; have := h.njobs
 simp only [encImage, List.length_append, encNum_len, encText_len, List.length_cons, List.length_nil]
 omega
end Go.Abs
namespace Go.Abs
open Go.Proofs
set_option autoImplicit false
set_option linter.all false
def crcB (c : BitVec 32) (k : Nat) : UInt8 := lowByte (c >>> (8 * k))
def le4 (c : BitVec 32) : List UInt8 := (List.range 4).map (crcB c)
theorem le4_eq (c : BitVec 32) : le4 c = [lowByte c, lowByte (c >>> 8), lowByte (c >>> 16), lowByte (c >>> 24)] := by
 simp [le4, crcB]
theorem le4_take (c : BitVec 32) {i : Nat} (h : i < 4) : (le4 c).take (i + 1) = (le4 c).take i ++ [crcB c i] := by
 have : i = 0 ∨ i = 1 ∨ i = 2 ∨ i = 3 := by omega
 rcases this with rfl | rfl | rfl | rfl <;> simp [le4]
theorem le4_length (c : BitVec 32) : (le4 c).length = 4 := by simp [le4]
theorem sh32 (c : BitVec 32) (k : Nat) : byteOf (IntKind.i64.wrap ((c.toNat : Int).fdiv (2 ^ k))) = lowByte (c >>> k) := by
 have hc := c.isLt
 have e : (c.toNat : Int).fdiv (2 ^ k) = ((c.toNat / 2 ^ k : Nat) : Int) := by
   rw [Int.fdiv_eq_ediv_of_nonneg _ (by exact_mod_cast Nat.zero_le _)]; norm_cast
 have hl : c.toNat / 2 ^ k ≤ c.toNat := Nat.div_le_self _ _
 unfold byteOf lowByte
 rw [BitVec.toNat_ushiftRight, Nat.shiftRight_eq_div_pow, e]
 generalize c.toNat / 2 ^ k = q at hl
 rw [wrap_i64 (by omega) (by omega)]
 apply UInt8.toNat_inj.1
 rw [UInt8.toNat_ofNat', UInt8.toNat_ofNat']
 omega
def encFile (m : DImage) : List UInt8 := encImage m ++ le4 (crc (encImage m))
def encE (m : DImage) : Int := if checkE m = 0 then (if 4194304 < (encFile m).length then 4 else 0) else checkE m
def encB (m : DImage) : List UInt8 := if checkE m = 0 then (if 4194304 < (encFile m).length then [] else encFile m) else []
theorem owes_out2 {P : Program} {H : AS} {fn : Func} {p : PV} {y : Value} {F' : AF} {H' : AS} {e : Exit} {lo sz : Nat} {rows : List (List PV)} (he : e = .normal ∨ e = .ret) (hwf : WF H) (hr : aResults P F' H' fn.results.toList = some [p, .val y])
    (hout : OutIs lo H' p sz rows) (hlo : H.next ≤ lo) (hext : H.Ext H') (hb : ∀ r ∈ rows, ∀ p ∈ r, Below H.next p) (hy : Frozen (.val y)) : Owes P fn H (fun r H'' => r = .tuple [PV.sl H.color sz rows, .val y] ∧ H'' = H) e F' H' := by
 obtain ⟨H2, hf, hab⟩ := frz_out hout
 have hv : frzV H' p = (PV.sl H'.color sz rows, H2) := by
   rcases hout with ⟨rfl, rfl⟩ | ⟨id, hid, hlt, rfl, hbox⟩ <;> exact hf
 refine owes_pure he hwf hr ?_ ?_ ?_ <;> simp [frzVs, hv, frzV_one (p := .val y) ⟨by simp, hy⟩, packed]
 exact hab H hlo hext
 exact hb
 rw [hext.color]
theorem Wrote.toExt {id : Nat} {p' : PV} {H H' : AS} (h : Wrote id .nil p' H H') (hid : H.next ≤ id) : H.Ext H' :=
  ⟨h.next, fun j hj => h.box j hj (by omega) (fun n s e => by cases e), h.mp, h.color⟩
theorem outMsl {lo : Nat} {H : AS} {p : PV} {bs : List UInt8} (h : OutIs lo H p 1 (bs.map brow)) (hb : bs ≠ []) : ∃ j, lo ≤ j ∧ p = .msl j bs.length 1 ∧ H.box j = some (bs.map brow) := by
 rcases h with ⟨h, _⟩ | ⟨j, h1, h2, h3, h4⟩
 exact absurd (List.map_eq_nil_iff.1 h) hb
 exact ⟨j, h1, by rw [h3]; simp, h4⟩
theorem encImage_ne (m : DImage) : encImage m ≠ [] := by unfold encImage; simp
theorem encImage_app (m : DImage) (l : List UInt8) : encImage m ++ l ≠ [] := fun h => encImage_ne m (List.append_eq_nil_iff.1 h).1
theorem brow_below (n : Nat) (bs : List UInt8) : ∀ r ∈ bs.map brow, ∀ p ∈ r, Below n p := by simp [brow]
set_option maxRecDepth 100000 in
theorem encodeIs (H : AS) (c : Nat) (m : DImage) (hmc : m.cells.length < 2 ^ 62) (hmd : m.codes.length < 2 ^ 62) (hmj : m.jobs.length < 2 ^ 62) (hsz : ∀ f ∈ m.codes, f.ops.length < 2 ^ 62 ∧ f.loops.length < 2 ^ 62) (hsa : ∀ x ∈ m.cells, x.addr.size ≤ 281474976710656) : ACalls Tryz.prog 8 [.agg (m.row c)] H fun q H' => q = .tuple [PV.sl H.color 1 ((encB m).map brow), pi (encE m)] ∧ H' = H := by
 refine ACalls_intro Tryz.func8 rfl (by kernel_rfl) (by simp) fun hwf hbel => ?_
 refine T_sr fun K0 hK0 => ?_
 simp [↓put_at, ↓AF.ev_tmp, ↓ex_cons, ↓ex_nil, ↓ex_box, ↓ex_assign, ↓AF.ev_slice, ↓AF.ev_int, abox, frame0, abox_image]
 refine hK0 _ _ ?_
 try clear hK0 K0
 refine T_seqk fun K1 hK1 => ?_
 refine T_sr fun K2 hK2 => ?_
 simp [↓put_at, ↓AF.ev_tmp, ↓ex_cons, ↓ex_nil, ↓ex_load, ↓ex_call, ↓AF.ev_func, ↓ex_move, ↓ex_extract, ↓ex_assign, aload, partOf, aExtract, frame0, aload, DImage.row]
 refine callK.of (checkIs _ c m hmc hmd hmj hsz hsa) ?_
 rintro _ Hz ⟨⟨ca, cb, rfl⟩, hz⟩
 subst Hz
 simp [↓put_at, ↓AF.ev_tmp, ↓ex_cons, ↓ex_nil, ↓ex_load, ↓ex_call, ↓AF.ev_func, ↓ex_move, ↓ex_extract, ↓ex_assign, aload, partOf, aExtract, frame0, aload, DImage.row]
 refine hK2 _ _ ?_
 try clear hK2 K2
 refine T_sr fun K3 hK3 => ?_
 simp [↓put_at, ↓AF.ev_tmp, ↓ex_cons, ↓ex_nil, ↓ex_move, ↓ex_binOp, ↓AF.ev_int, aBin, aBinV, frame0, int_bne]
 refine hK3 _ _ ?_
 try clear hK3 K3
 refine T_cond (rfl) (fun c0 => ?_) (fun c0 => ?_)
 refine T_sr fun K4 hK4 => ?_
 simp [↓put_at, ↓AF.ev_tmp, ↓ex_cons, ↓ex_nil, ↓ex_move, ↓ex_assign, ↓AF.ev_slice, frame0]
 refine hK4 _ _ ?_
 try clear hK4 K4
 refine T_ret ?_
 try simp only [tR, bR, lR]
 have hne : ¬ checkE m = 0 := by simpa using c0
 exact Owes.mono (fun q H' h => ⟨by rw [h.1]; simp [encB, encE, hne], h.2⟩) (owes_out2 (p := .nil) (rows := []) (lo := H.next) (sz := 1) (y := .int .i64 (checkE m)) (.inr rfl) hwf rfl .nil (Nat.le_refl _) (.bump (.setBox (Nat.le_refl _) (.refl _))) (by simp) (by simp))
 refine T_skip ?_
 try simp only [tN, bN, lN]
 refine hK1 _ _ ?_
 try clear hK1 K1
 refine T_sr fun K5 hK5 => ?_
 simp [↓put_at, ↓AF.ev_tmp, ↓ex_cons, ↓ex_nil, ↓ex_build, ↓ex_box, ↓ex_assign, aBuild, aBuild.go, splice, abox, frame0]
 refine hK5 _ _ ?_
 try clear hK5 K5
 refine T_sr fun K6 hK6 => ?_
 have hok : checkE m = 0 := by simpa using c0
 have hsize := encImage_le (okImg hok)
 simp [↓put_at, ↓AF.ev_tmp, ↓ex_cons, ↓ex_nil, ↓ex_move, ↓ex_load, ↓ex_call, ↓AF.ev_func, aload, partOf, frame0, DImage.row]
 refine callK.of (wImage _ (H.next + 1) (H.next + 2) [] .nil m c ⟨by simp, .nil, by simp, by simp⟩ (by simp; omega)) ?_
 rintro _ H3 ⟨rfl, p3, hw3, hwr3'⟩
 have hwr3 : Wrote (H.next + 1) .nil p3 H H3 := hwr3'.ext (.bump (.setBox (by simp) (.bump (.setBox (Nat.le_refl _) (.refl _)))))
 clear hwr3'
 rw [List.nil_append] at hw3
 obtain ⟨j, hj1, rfl, hj3⟩ := outMsl hw3.out (encImage_ne m)
 simp [↓put_at, ↓AF.ev_tmp, ↓ex_cons, ↓ex_nil, ↓ex_move, ↓ex_load, ↓ex_call, ↓AF.ev_func, aload, partOf, frame0, DImage.row]
 refine hK6 _ _ ?_
 try clear hK6 K6
 refine T_sr fun K7 hK7 => ?_
 simp [↓put_at, ↓AF.ev_tmp, ↓ex_cons, ↓ex_nil, ↓ex_move, ↓ex_nilCheck, ↓ex_fieldAddr, ↓ex_load, ↓ex_call, ↓AF.ev_func, ↓ex_assign, aFieldAddr, aload, partOf, frame0, hw3.box]
 refine callK.of (sumMsl _ (encImage m) (by omega) j hj3) ?_
 rintro _ Hz ⟨rfl, hz⟩
 subst Hz
 simp [↓put_at, ↓AF.ev_tmp, ↓ex_cons, ↓ex_nil, ↓ex_move, ↓ex_nilCheck, ↓ex_fieldAddr, ↓ex_load, ↓ex_call, ↓AF.ev_func, ↓ex_assign, aFieldAddr, aload, partOf, frame0, hw3.box]
 refine hK7 _ _ ?_
 try clear hK7 K7
 refine T_seqk fun K8 hK8 => ?_
 refine T_sr fun K9 hK9 => ?_
 simp [↓put_at, ↓AF.ev_tmp, ↓ex_cons, ↓ex_nil, ↓ex_move, ↓AF.ev_int, frame0]
 refine hK9 _ _ ?_
 try clear hK9 K9
 refine T_block ?_
 refine T_loop (fun k F H' => ∃ (i : Nat) (p1 : PV), k = 4 - i ∧ i ≤ 4 ∧ F 7 = .ptr (H.next + 1) 1 0 0 ∧ F 8 = v32 (crc (encImage m)) ∧ F 29 = pi i ∧ F 2 = .nil ∧ W H' (H.next + 1) (H.next + 2) (encImage m ++ (le4 (crc (encImage m))).take i) p1 ∧ Wrote (H.next + 1) .nil p1 H H') (4) ?_ ?_
 refine ⟨0, .msl j (encImage m).length 1, ?_⟩
 simp
 exact ⟨hw3, hwr3⟩
 rintro k F H4 ⟨i, p1, rfl, hi, g7, g8, g29, g2, hw1, hwr1⟩
 refine T_sr fun K10 hK10 => ?_
 simp [↓put_at, ↓AF.ev_tmp, ↓ex_cons, ↓ex_nil, ↓ex_binOp, ↓AF.ev_int, aBin, aBinV, frame0, g7, g8, g29, g2]
 refine hK10 _ _ ?_
 try clear hK10 K10
 refine T_seqk fun K11 hK11 => ?_
 refine T_cond (by first | rfl | exact g7 | exact g8 | exact g29 | exact g2) (fun c1 => ?_) (fun c1 => ?_)
 have hi4 : i < 4 := by simp at c1; omega
 refine T_skip ?_
 try simp only [tN, bN, lN]
 refine hK11 _ _ ?_
 try clear hK11 K11
 refine T_seqk fun K12 hK12 => ?_
 refine T_block ?_
 refine T_sr fun K13 hK13 => ?_
 simp [↓put_at, ↓AF.ev_tmp, ↓ex_cons, ↓ex_nil, ↓ex_move, ↓ex_assign, frame0, g7, g8, g29, g2]
 refine hK13 _ _ ?_
 try clear hK13 K13
 refine T_rg ?_
 simp [↓put_at, ↓AF.ev_tmp, ↓ex_cons, ↓ex_nil, ↓ex_move, ↓ex_binOp, ↓AF.ev_int, ↓ex_convert, ↓ex_call, ↓AF.ev_func, aBin, aBinV, aConvert, frame0, g7, g8, g29, g2, aBin, aBinV, aConvert, v32, w8 (show i < 8 by omega)]
 refine callK.of (wByte _ (H.next + 1) (H.next + 2) (encImage m ++ (le4 (crc (encImage m))).take i) p1 _ hw1 (by simp [le4_length]; omega)) ?_
 rintro _ H2 ⟨rfl, p2, hw2, hwr2⟩
 simp [↓put_at, ↓AF.ev_tmp, ↓ex_cons, ↓ex_nil, ↓ex_move, ↓ex_binOp, ↓AF.ev_int, ↓ex_convert, ↓ex_call, ↓AF.ev_func, aBin, aBinV, aConvert, frame0, g7, g8, g29, g2, aBin, aBinV, aConvert, v32, w8 (show i < 8 by omega)]
 refine hK12 _ _ ?_
 try clear hK12 K12
 refine T_rg ?_
 simp [↓put_at, ↓AF.ev_tmp, ↓ex_cons, ↓ex_nil, ↓ex_binOp, ↓AF.ev_int, ↓ex_move, aBin, aBinV, frame0, g7, g8, g29, g2]
 refine ⟨4 - (i + 1), by omega, i + 1, rfl, by omega, by rw [wrap_i64 (by omega) (by omega)]; rfl, p2, ?_, hwr1.trans hwr2⟩
 rw [le4_take _ hi4, ← List.append_assoc]
 rw [show min (8 * (i : Int)).toNat IntKind.u32.bits = 8 * i by simp [IntKind.bits]; omega, sh32] at hw2
 exact hw2
 have hge : i = 4 := by simp at c1; omega
 refine T_exit ?_
 try simp only [tE, bE, lE, if_true, Nat.reduceEqDiff, if_false, reduceIte, tN, bN, lN]
 refine hK8 _ _ ?_
 try clear hK8 K8
 refine T_seqk fun K14 hK14 => ?_
 refine T_sr fun K15 hK15 => ?_
 have hall : (le4 (crc (encImage m))).take i = le4 (crc (encImage m)) := List.take_of_length_le (by rw [le4_length]; omega)
 rw [hall] at hw1
 obtain ⟨j2, hj4, rfl, hj6⟩ := outMsl hw1.out (encImage_app m _)
 simp [↓put_at, ↓AF.ev_tmp, ↓ex_cons, ↓ex_nil, ↓ex_move, ↓ex_nilCheck, ↓ex_fieldAddr, ↓ex_load, ↓ex_len, ↓ex_binOp, ↓AF.ev_int, aFieldAddr, aload, partOf, aLen, aBin, aBinV, frame0, g7, g8, g29, g2, hw1.box, aLen, lenOf]
 refine hK15 _ _ ?_
 try clear hK15 K15
 refine T_cond (by first | rfl | exact g7 | exact g8 | exact g29 | exact g2) (fun c2 => ?_) (fun c2 => ?_)
 refine T_sr fun K16 hK16 => ?_
 simp [↓put_at, ↓AF.ev_tmp, ↓ex_cons, ↓ex_nil, ↓ex_assign, ↓AF.ev_slice, ↓AF.ev_int, frame0, g7, g8, g29, g2]
 refine hK16 _ _ ?_
 try clear hK16 K16
 refine T_ret ?_
 try simp only [tR, bR, lR]
 have hlong : 4194304 < (encFile m).length := by
   have := of_decide_eq_true c2
   unfold encFile; rw [List.length_append]; omega
 exact Owes.mono (fun q H' h => ⟨by rw [h.1]; simp [encB, encE, hok, hlong], h.2⟩) (owes_out2 (p := .nil) (rows := []) (lo := H.next) (sz := 1) (y := .int .i64 4) (.inr rfl) hwf rfl .nil (Nat.le_refl _) (hwr1.toExt (by omega)) (by simp) (by simp))
 refine T_skip ?_
 try simp only [tN, bN, lN]
 refine hK14 _ _ ?_
 try clear hK14 K14
 refine T_sr fun K17 hK17 => ?_
 simp [↓put_at, ↓AF.ev_tmp, ↓ex_cons, ↓ex_nil, ↓ex_move, ↓ex_nilCheck, ↓ex_fieldAddr, ↓ex_load, ↓ex_assign, ↓AF.ev_int, aFieldAddr, aload, partOf, frame0, g7, g8, g29, g2, hw1.box]
 refine hK17 _ _ ?_
 try clear hK17 K17
 refine T_ret ?_
 try simp only [tR, bR, lR]
 have hshort : ¬ 4194304 < (encFile m).length := by
   have := of_decide_eq_false c2
   unfold encFile; rw [List.length_append]; omega
 have hout := hw1.out
 have hex := hwr1.toExt (by omega)
 simp only [List.length_append] at hout
 exact Owes.mono (fun q H' h => ⟨by rw [h.1, encB, encE, if_pos hok, if_neg hshort, if_pos hok, if_neg hshort, encFile], h.2⟩) (owes_out2 (y := .int .i64 0) (.inr rfl) hwf rfl hout (by omega) hex (brow_below _ _) (by simp))
end Go.Abs
namespace Go.Abs
set_option autoImplicit false
set_option linter.all false
def Has (bs : List UInt8) (n : Nat) (l : List UInt8) : Prop := n + l.length ≤ bs.length ∧ (bs.drop n).take l.length = l
theorem Has.app {bs : List UInt8} {n : Nat} {a b : List UInt8} : Has bs n (a ++ b) ↔ Has bs n a ∧ Has bs (n + a.length) b := by
 unfold Has
 rw [List.length_append]
 have key : (bs.drop n).take (a.length + b.length) = (bs.drop n).take a.length ++ (bs.drop (n + a.length)).take b.length := by
   rw [List.take_add, List.drop_drop]
 rw [key]
 constructor
 rintro ⟨h1, h2⟩
 have hl : ((bs.drop n).take a.length).length = a.length := by simp; omega
 obtain ⟨e1, e2⟩ := List.append_inj h2 hl
 exact ⟨⟨by omega, e1⟩, by omega, e2⟩
 rintro ⟨⟨h1, h2⟩, h3, h4⟩
 exact ⟨by omega, by rw [h2, h4]⟩
theorem Has.nil {bs : List UInt8} {n : Nat} (h : n ≤ bs.length) : Has bs n [] := ⟨by simpa using h, by simp⟩
theorem Has.whole {bs : List UInt8} : Has bs 0 bs := ⟨by simp, by simp⟩
theorem rdTake_stick {bs : List UInt8} {n : Nat} {s : RS} (h : s.e ≠ 0) : (rdTake bs n s).2 = s := by unfold rdTake; rw [if_neg h]
theorem rdTake_ok {bs : List UInt8} {n : Nat} {s : RS} (h : s.e = 0) (he : (rdTake bs n s).2.e = 0) : s.at' + n ≤ bs.length ∧ rdTake bs n s = ((bs.drop s.at').take n, { s with at' := s.at' + n }) := by
 unfold rdTake at he ⊢
 rw [if_pos h] at he ⊢
 by_cases hl : bs.length < s.at' + n
 rw [if_pos hl] at he; simp at he
 rw [if_neg hl]; exact ⟨by omega, rfl⟩
theorem rdTake_full {bs : List UInt8} {n : Nat} {s : RS} {l : List UInt8} (h : s.e = 0) (hn : l.length = n) (hb : Has bs s.at' l) : rdTake bs n s = (l, { s with at' := s.at' + n }) := by
 subst hn
 unfold rdTake
 have := hb.1
 rw [if_pos h, if_neg (by omega), hb.2]
structure Law {α : Type} (rd : List UInt8 → RS → α × RS) (enc : α → List UInt8) (ok : α → Prop) : Prop where
  stick : ∀ bs s, s.e ≠ 0 → (rd bs s).2.e ≠ 0
  sound : ∀ bs s, s.e = 0 → s.at' ≤ bs.length → (rd bs s).2.e = 0 → ok (rd bs s).1 ∧ Has bs s.at' (enc (rd bs s).1) ∧ (rd bs s).2 = { s with at' := s.at' + (enc (rd bs s).1).length }
  full : ∀ bs s x, s.e = 0 → ok x → Has bs s.at' (enc x) → rd bs s = (x, { s with at' := s.at' + (enc x).length })
def rdPair {α β : Type} (rd1 : List UInt8 → RS → α × RS) (rd2 : List UInt8 → RS → β × RS) (bs : List UInt8) (s : RS) : (α × β) × RS :=
  (((rd1 bs s).1, (rd2 bs (rd1 bs s).2).1), (rd2 bs (rd1 bs s).2).2)
theorem Law.pair {α β : Type} {rd1 : List UInt8 → RS → α × RS} {rd2 : List UInt8 → RS → β × RS} {enc1 : α → List UInt8} {enc2 : β → List UInt8} {ok1 : α → Prop} {ok2 : β → Prop} (h1 : Law rd1 enc1 ok1) (h2 : Law rd2 enc2 ok2) :
    Law (rdPair rd1 rd2) (fun x => enc1 x.1 ++ enc2 x.2) (fun x => ok1 x.1 ∧ ok2 x.2) := by
 refine ⟨fun bs s h => h2.stick _ _ (h1.stick _ _ h), fun bs s h hle he => ?_, fun bs s x h hx hb => ?_⟩
 have e1 : (rd1 bs s).2.e = 0 := by
   by_cases e : (rd1 bs s).2.e = 0
   · exact e
   · exact absurd he (h2.stick _ _ e)
 obtain ⟨o1, b1, s1⟩ := h1.sound bs s h hle e1
 obtain ⟨o2, b2, s2⟩ := h2.sound bs (rd1 bs s).2 e1 (by rw [s1]; exact b1.1) he
 have hat : (rd1 bs s).2.at' = s.at' + (enc1 (rd1 bs s).1).length := by rw [s1]
 refine ⟨⟨o1, o2⟩, Has.app.2 ⟨b1, ?_⟩, ?_⟩
 show Has bs (s.at' + (enc1 (rd1 bs s).1).length) _; rw [← hat]; exact b2
 show (rd2 bs (rd1 bs s).2).2 = _
 rw [s2, hat]
 simp only [rdPair, List.length_append]
 rw [s1]
 simp only [Nat.add_assoc]
 obtain ⟨b1, b2⟩ := Has.app.1 hb
 have r1 := h1.full bs s x.1 h hx.1 b1
 have r2 := h2.full bs { s with at' := s.at' + (enc1 x.1).length } x.2 h hx.2 b2
 unfold rdPair
 rw [r1]
 dsimp only
 rw [r2]
 simp only [List.length_append, Nat.add_assoc]
theorem Law.map {α β : Type} {rd : List UInt8 → RS → α × RS} {rd' : List UInt8 → RS → β × RS} {enc : α → List UInt8} {enc' : β → List UInt8} {ok : α → Prop} {ok' : β → Prop} (h : Law rd enc ok) (f : α → β) (g : β → α)
    (hrd : ∀ bs s, rd' bs s = (f (rd bs s).1, (rd bs s).2)) (henc : ∀ x, ok x → enc' (f x) = enc x) (hok : ∀ x, ok x → ok' (f x)) (hok' : ∀ y, ok' y → ok (g y)) (hfg : ∀ y, ok' y → f (g y) = y) : Law rd' enc' ok' := by
 refine ⟨fun bs s e => ?_, fun bs s e hle he => ?_, fun bs s y e hy hb => ?_⟩
 rw [hrd]; exact h.stick bs s e
 rw [hrd] at he ⊢
 obtain ⟨o, b, st⟩ := h.sound bs s e hle he
 refine ⟨hok _ o, ?_, ?_⟩
 rw [henc _ o]; exact b
 rw [henc _ o]; exact st
 rw [← hfg y hy, henc _ (hok' y hy)] at hb
 have := h.full bs s (g y) e (hok' y hy) hb
 rw [hrd, this]
 simp only
 rw [← henc _ (hok' y hy), hfg y hy]
def ok64 (n : Int) : Prop := -9223372036854775808 ≤ n ∧ n < 9223372036854775808
def ok8 (n : Int) : Prop := 0 ≤ n ∧ n < 256
def okU64 (n : Int) : Prop := 0 ≤ n ∧ n < 18446744073709551616
def okText (s : ByteArray) : Prop := s.size < 2 ^ 63
theorem byteOf_ofNat (b : UInt8) : byteOf ((b.toNat : Nat) : Int) = b := by
 apply UInt8.toNat_inj.1
 have h := byteOf_toNat ((b.toNat : Nat) : Int)
 have := b.toNat_lt
 omega
theorem law_byte : Law rdByte (fun n => [byteOf n]) ok8 := by
 refine ⟨fun bs s h => ?_, fun bs s h hle he => ?_, fun bs s x h hx hb => ?_⟩
 show (rdTake bs 1 s).2.e ≠ 0; rw [rdTake_stick h]; exact h
 obtain ⟨hl, ht⟩ := rdTake_ok (n := 1) h he
 obtain ⟨b, hb⟩ : ∃ b, (bs.drop s.at').take 1 = [b] := List.length_eq_one_iff.1 (by simp; omega)
 have e1 : (rdByte bs s).1 = ((b.toNat : Nat) : Int) := by unfold rdByte; rw [ht, hb]; rfl
 have e2 : (rdByte bs s).2 = { s with at' := s.at' + 1 } := by unfold rdByte; rw [ht]
 rw [e1, e2]
 have := b.toNat_lt
 refine ⟨⟨by omega, by omega⟩, ⟨by simp; omega, ?_⟩, ?_⟩
 rw [byteOf_ofNat]; simpa using hb
 simp
 have ht := rdTake_full (n := 1) h (by simp) hb
 unfold rdByte
 rw [ht]
 have := byteOf_toNat x
 have h1 := hx.1
 have h2 := hx.2
 simp
 omega
def natTo (l : List UInt8) : Nat → Nat
  | 0 => 0
  | i + 1 => natTo l i + ((l[i]?).getD 0).toNat * 2 ^ (8 * i)
theorem natTo_lt (l : List UInt8) : ∀ i, natTo l i < 2 ^ (8 * i)
  | 0 => by simp [natTo]
  | i + 1 => by
    have h := natTo_lt l i
    have hb := ((l[i]?).getD 0).toNat_lt
    have e : 2 ^ (8 * (i + 1)) = 256 * 2 ^ (8 * i) := by rw [show 8 * (i + 1) = 8 * i + 8 by omega, Nat.pow_add]; omega
    have h2 : ((l[i]?).getD 0).toNat * 2 ^ (8 * i) ≤ 255 * 2 ^ (8 * i) := Nat.mul_le_mul_right _ (by omega)
    unfold natTo
    omega
theorem numTo_nat (l : List UInt8) : ∀ i, i ≤ 8 → (numTo l i).toNat = natTo l i
  | 0, _ => rfl
  | i + 1, h => by
    have ih := numTo_nat l i (by omega)
    have hlt := natTo_lt l i
    have hb := ((l[i]?).getD 0).toNat_lt
    unfold numTo natTo
    rw [BitVec.toNat_or, BitVec.toNat_shiftLeft, ih, BitVec.toNat_ofNat]
    have e1 : ((l[i]?).getD 0).toNat % 2 ^ 64 = ((l[i]?).getD 0).toNat := Nat.mod_eq_of_lt (by omega)
    have hle : 2 ^ (8 * i) ≤ 2 ^ 56 := Nat.pow_le_pow_right (by decide) (by omega)
    have h2 : ((l[i]?).getD 0).toNat * 2 ^ (8 * i) ≤ 255 * 2 ^ 56 := Nat.mul_le_mul (by omega) hle
    rw [e1, Nat.shiftLeft_eq, Nat.mod_eq_of_lt (Nat.lt_of_le_of_lt h2 (by decide)), ← Nat.shiftLeft_eq, Nat.or_comm, ← Nat.shiftLeft_add_eq_or_of_lt hlt, Nat.shiftLeft_eq]
    omega
theorem encNum_eq (n : Int) : encNum n = [byteOf n, byteOf (n / 256), byteOf (n / 65536), byteOf (n / 16777216), byteOf (n / 4294967296), byteOf (n / 1099511627776), byteOf (n / 281474976710656), byteOf (n / 72057594037927936)] := by
 unfold encNum
 simp only [show List.range 8 = [0, 1, 2, 3, 4, 5, 6, 7] from rfl, List.map_cons, List.map_nil]
 simp only [Int.fdiv_eq_ediv_of_nonneg n (show (0 : Int) ≤ 2 ^ (8 * 0) by decide), Int.fdiv_eq_ediv_of_nonneg n (show (0 : Int) ≤ 2 ^ (8 * 1) by decide), Int.fdiv_eq_ediv_of_nonneg n (show (0 : Int) ≤ 2 ^ (8 * 2) by decide), Int.fdiv_eq_ediv_of_nonneg n (show (0 : Int) ≤ 2 ^ (8 * 3) by decide), Int.fdiv_eq_ediv_of_nonneg n (show (0 : Int) ≤ 2 ^ (8 * 4) by decide), Int.fdiv_eq_ediv_of_nonneg n (show (0 : Int) ≤ 2 ^ (8 * 5) by decide), Int.fdiv_eq_ediv_of_nonneg n (show (0 : Int) ≤ 2 ^ (8 * 6) by decide), Int.fdiv_eq_ediv_of_nonneg n (show (0 : Int) ≤ 2 ^ (8 * 7) by decide)]
 simp
theorem natTo8 (a b c d e f g h : UInt8) : natTo [a, b, c, d, e, f, g, h] 8 = a.toNat + b.toNat * 256 + c.toNat * 65536 + d.toNat * 16777216 + e.toNat * 4294967296 + f.toNat * 1099511627776 + g.toNat * 281474976710656 + h.toNat * 72057594037927936 := by
 simp [natTo]
theorem byteOf_eq {n : Int} {b : UInt8} (h : n % 256 = (b.toNat : Int)) : byteOf n = b := by
 apply UInt8.toNat_inj.1
 have := byteOf_toNat n
 omega
theorem encNum_numTo {l : List UInt8} (h : l.length = 8) : encNum (numTo l 8).toInt = l := by
  match l, h with
  | [a, b, c, d, e, f, g, h], _ =>
    have hn := numTo_nat [a, b, c, d, e, f, g, h] 8 (by omega)
    rw [natTo8] at hn
    have ha := a.toNat_lt
    have hb := b.toNat_lt
    have hc := c.toNat_lt
    have hd := d.toNat_lt
    have he := e.toNat_lt
    have hf := f.toNat_lt
    have hg := g.toNat_lt
    have hh := h.toNat_lt
    rw [encNum_eq, BitVec.toInt_eq_toNat_cond]
    generalize (numTo [a, b, c, d, e, f, g, h] 8).toNat = n at hn
    generalize hx : (if 2 * n < 2 ^ 64 then (n : Int) else (n : Int) - ((2 ^ 64 : Nat) : Int)) = x
    have hx' : x = n ∨ x = (n : Int) - 18446744073709551616 := by
      rw [← hx]; split
      · exact .inl rfl
      · exact .inr rfl
    clear hx
    have q1 : (x / 256) / 256 = x / 65536 := by omega
    rw [byteOf_eq (b := a) (by omega), byteOf_eq (b := b) (by omega), byteOf_eq (b := c) (by omega), byteOf_eq (b := d) (by omega), byteOf_eq (b := e) (by omega), byteOf_eq (b := f) (by omega), byteOf_eq (b := g) (by omega), byteOf_eq (b := h) (by omega)]
theorem numTo_encNum {n : Int} (h : ok64 n) : (numTo (encNum n) 8).toInt = n := by
 have hn := numTo_nat (encNum n) 8 (by omega)
 rw [BitVec.toInt_eq_toNat_cond, hn, encNum_eq, natTo8]
 have h0 := byteOf_toNat n
 have h1 := byteOf_toNat (n / 256)
 have h2 := byteOf_toNat (n / 65536)
 have h3 := byteOf_toNat (n / 16777216)
 have h4 := byteOf_toNat (n / 4294967296)
 have h5 := byteOf_toNat (n / 1099511627776)
 have h6 := byteOf_toNat (n / 281474976710656)
 have h7 := byteOf_toNat (n / 72057594037927936)
 generalize (byteOf n).toNat = b0 at *
 generalize (byteOf (n / 256)).toNat = b1 at *
 generalize (byteOf (n / 65536)).toNat = b2 at *
 generalize (byteOf (n / 16777216)).toNat = b3 at *
 generalize (byteOf (n / 4294967296)).toNat = b4 at *
 generalize (byteOf (n / 1099511627776)).toNat = b5 at *
 generalize (byteOf (n / 281474976710656)).toNat = b6 at *
 generalize (byteOf (n / 72057594037927936)).toNat = b7 at *
 have q1 : n / 65536 = (n / 256) / 256 := by omega
 have q2 : n / 16777216 = (n / 65536) / 256 := by omega
 have q3 : n / 4294967296 = (n / 16777216) / 256 := by omega
 have q4 : n / 1099511627776 = (n / 4294967296) / 256 := by omega
 have q5 : n / 281474976710656 = (n / 1099511627776) / 256 := by omega
 have q6 : n / 72057594037927936 = (n / 281474976710656) / 256 := by omega
 have hlo := h.1
 have hhi := h.2
 generalize n / 72057594037927936 = d7 at *
 generalize n / 281474976710656 = d6 at *
 generalize n / 1099511627776 = d5 at *
 generalize n / 4294967296 = d4 at *
 generalize n / 16777216 = d3 at *
 generalize n / 65536 = d2 at *
 generalize hd1 : n / 256 = d1 at *
 have key : n = b0 + b1 * 256 + b2 * 65536 + b3 * 16777216 + b4 * 4294967296 + b5 * 1099511627776 + b6 * 281474976710656 + d7 * 72057594037927936 := by omega
 split <;> omega
theorem law_num : Law rdNum encNum ok64 := by
 refine ⟨fun bs s h => ?_, fun bs s h hle he => ?_, fun bs s x h hx hb => ?_⟩
 show (rdTake bs 8 s).2.e ≠ 0; rw [rdTake_stick h]; exact h
 obtain ⟨hl, ht⟩ := rdTake_ok (n := 8) h he
 have hlen : ((bs.drop s.at').take 8).length = 8 := by simp; omega
 have e1 : (rdNum bs s).1 = (numTo ((bs.drop s.at').take 8) 8).toInt := by unfold rdNum; rw [ht]
 have e2 : (rdNum bs s).2 = { s with at' := s.at' + 8 } := by unfold rdNum; rw [ht]
 rw [e1, e2, encNum_numTo hlen]
 refine ⟨?_, ⟨by rw [hlen]; exact hl, by rw [hlen]⟩, by rw [hlen]⟩
 unfold ok64
 have h1 := BitVec.le_toInt (numTo ((bs.drop s.at').take 8) 8)
 have h2 := BitVec.toInt_lt (x := numTo ((bs.drop s.at').take 8) 8)
 simp at h1 h2
 exact ⟨h1, h2⟩
 have ht := rdTake_full (n := 8) h (encNum_length x) hb
 unfold rdNum
 rw [ht, encNum_length]
 dsimp only
 rw [numTo_encNum hx]
theorem rdMany_stick {bs : List UInt8} {s : RS} (h : s.e ≠ 0) : (rdMany bs s).2.e ≠ 0 := by
 have h1 : (rdNum bs s).2 = s := rdTake_stick h
 have h2 : (rdManyA bs s).e ≠ 0 := by
   unfold rdManyA rdRefuse; rw [h1]; split
   · exact h
   · exact h
 show (rdManyB bs s).e ≠ 0
 unfold rdManyB
 rw [if_neg (fun h => h2 h.1)]; exact h2
theorem rdMany_ok {bs : List UInt8} {s : RS} (h : s.e = 0) (hle : s.at' ≤ bs.length) (he : (rdMany bs s).2.e = 0) : Has bs s.at' (encNum ((rdMany bs s).1 : Int)) ∧ (rdMany bs s).2 = { s with at' := s.at' + 8 } ∧ s.at' + 8 + (rdMany bs s).1 ≤ bs.length ∧ ok64 ((rdMany bs s).1 : Int) := by
 have he' : (rdManyB bs s).e = 0 := he
 have hnn := rdMany_nonneg he'
 have ref : ∀ (a e : Int) (s : RS), e ≠ 0 → (rdRefuse a e s).e ≠ 0 := fun a e s h => by unfold rdRefuse; split <;> simp_all
 have hA : rdManyB bs s = rdManyA bs s := by
   unfold rdManyB at he' ⊢
   split at he'
   · exact absurd he' (ref _ _ _ (by decide))
   · rename_i h; rw [if_neg h]
 have hN : rdManyA bs s = (rdNum bs s).2 := by unfold rdManyA; rw [if_neg (by omega)]
 have heN : (rdNum bs s).2.e = 0 := by rw [← hN, ← hA]; exact he'
 obtain ⟨o, b, st⟩ := law_num.sound bs s h hle heN
 have e1 : (((rdMany bs s).1 : Nat) : Int) = (rdNum bs s).1 := by
   unfold rdMany; rw [if_pos he']; dsimp only; omega
 have e2 : (rdMany bs s).2 = { s with at' := s.at' + 8 } := by
   show rdManyB bs s = _
   rw [hA, hN, st, encNum_length]
 rw [e1]
 refine ⟨b, e2, ?_, o⟩
 have hb := b.1
 rw [encNum_length] at hb
 have : (rdManyB bs s).at' = s.at' + 8 := by rw [hA, hN, st, encNum_length]
 rw [this] at hnn
 omega
theorem rdMany_full {bs : List UInt8} {s : RS} {n : Nat} (h : s.e = 0) (hn : n < 2 ^ 63) (hb : Has bs s.at' (encNum (n : Int))) (hl : s.at' + 8 + n ≤ bs.length) : rdMany bs s = (n, { s with at' := s.at' + 8 }) := by
 have hr := law_num.full bs s (n : Int) h ⟨by omega, by omega⟩ hb
 rw [encNum_length] at hr
 have hA : rdManyA bs s = { s with at' := s.at' + 8 } := by unfold rdManyA; rw [hr]; dsimp only; rw [if_neg (by omega)]
 have hB : rdManyB bs s = { s with at' := s.at' + 8 } := by
   unfold rdManyB; rw [hA, hr]; dsimp only; rw [if_neg (by omega)]
 unfold rdMany
 rw [hB, hr]
 dsimp only
 rw [if_pos h]
 simp
theorem encText_len' (s : ByteArray) : (encText s).length = 8 + s.size := by
 unfold encText; rw [List.length_append, encNum_length]; simp
theorem law_text : Law rdText encText okText := by
 refine ⟨fun bs s h => ?_, fun bs s h hle he => ?_, fun bs s x h hx hb => ?_⟩
 show (rdTake bs _ (rdMany bs s).2).2.e ≠ 0; rw [rdTake_stick (rdMany_stick h)]; exact rdMany_stick h
 have hm : (rdMany bs s).2.e = 0 := by
   by_cases e : (rdMany bs s).2.e = 0
   · exact e
   · have : (rdText bs s).2 = (rdMany bs s).2 := rdTake_stick e
     rw [this] at he; exact absurd he e
 obtain ⟨b1, s1, l1, o1⟩ := rdMany_ok h hle hm
 obtain ⟨hl, ht⟩ := rdTake_ok (n := (rdMany bs s).1) hm he
 have hat : (rdMany bs s).2.at' = s.at' + 8 := by rw [s1]
 rw [hat] at hl
 have hlen : ((bs.drop (s.at' + 8)).take (rdMany bs s).1).length = (rdMany bs s).1 := by simp; omega
 have e1 : (rdText bs s).1 = ⟨((bs.drop (s.at' + 8)).take (rdMany bs s).1).toArray⟩ := by unfold rdText; rw [ht, hat]
 have e2 : (rdText bs s).2 = { s with at' := s.at' + 8 + (rdMany bs s).1 } := by unfold rdText; rw [ht, s1]
 have hsz : (rdText bs s).1.size = (rdMany bs s).1 := by rw [e1]; exact hlen
 have henc : encText (rdText bs s).1 = encNum ((rdMany bs s).1 : Int) ++ (bs.drop (s.at' + 8)).take (rdMany bs s).1 := by
   unfold encText; rw [hsz, e1]
 refine ⟨?_, ?_, ?_⟩
 unfold okText; rw [hsz]; unfold ok64 at o1; omega
 rw [henc, Has.app]
 refine ⟨b1, ?_, ?_⟩
 rw [encNum_length, hlen]; exact hl
 rw [encNum_length, hlen]
 rw [encText_len', hsz, e2]; simp only [Nat.add_assoc]
 unfold encText at hb
 obtain ⟨b1, b2⟩ := Has.app.1 hb
 have hsz : x.data.toList.length = x.size := by simp
 have hl := b2.1
 rw [encNum_length, hsz] at hl
 have hm := rdMany_full h hx b1 (by omega)
 rw [encNum_length] at b2
 have ht := rdTake_full (bs := bs) (n := x.size) (s := { s with at' := s.at' + 8 }) h hsz b2
 unfold rdText
 rw [hm]
 dsimp only
 rw [ht, encText_len']
 simp only [Nat.add_assoc]
theorem law_truth : Law rdTruth (fun b => [bit b]) (fun _ => True) := by
 refine ⟨fun bs s h => ?_, fun bs s h hle he => ?_, fun bs s x h hx hb => ?_⟩
 have h1 : (rdByte bs s).2 = s := rdTake_stick h
 unfold rdTruth rdRefuse; dsimp only; rw [h1]; split
 exact h
 exact h
 have hr : ¬ (rdByte bs s).1 > 1 ∧ (rdTruth bs s).2 = (rdByte bs s).2 := by
   unfold rdTruth at he ⊢
   dsimp only at he ⊢
   split at he
   · unfold rdRefuse at he; split at he <;> simp_all
   · rename_i hh; rw [if_neg hh]; exact ⟨hh, rfl⟩
 obtain ⟨o, b, st⟩ := law_byte.sound bs s h hle (by rw [← hr.2]; exact he)
 have hbit : [bit (rdTruth bs s).1] = [byteOf (rdByte bs s).1] := by
   unfold rdTruth bit; dsimp only
   have h0 := o.1
   have : (rdByte bs s).1 = 0 ∨ (rdByte bs s).1 = 1 := by omega
   rcases this with e | e <;> rw [e] <;> simp
 refine ⟨trivial, ?_, ?_⟩
 rw [hbit]; exact b
 rw [hr.2, hbit]; exact st
 have hr := law_byte.full bs s (if x then 1 else 0) h (by cases x <;> exact ⟨by decide, by decide⟩) hb
 unfold rdTruth
 rw [hr]
 cases x <;> simp
theorem law_list {α : Type} {rd : List UInt8 → RS → α × RS} {enc : α → List UInt8} {ok : α → Prop} (h : Law rd enc ok) (hpos : ∀ x, 1 ≤ (enc x).length) :
    Law (fun bs s => rdList bs rd s) (fun l => encNum l.length ++ l.flatMap enc) (fun l => l.length < 2 ^ 63 ∧ ∀ x ∈ l, ok x) := by
 have go_sound : ∀ (n : Nat) (bs : List UInt8) (acc : List α) (s : RS), s.e = 0 → s.at' ≤ bs.length → (rdGo (rd bs) n acc s).2.e = 0 → ∃ l, (rdGo (rd bs) n acc s).1 = acc ++ l ∧ l.length = n ∧ (∀ x ∈ l, ok x) ∧ Has bs s.at' (l.flatMap enc) ∧ (rdGo (rd bs) n acc s).2 = { s with at' := s.at' + (l.flatMap enc).length } := by
   intro n
   induction n with
   | zero => intro bs acc s _ hle _; exact ⟨[], by simp [rdGo], rfl, by simp, Has.nil hle, by simp [rdGo]⟩
   | succ n ih =>
     intro bs acc s hs hle he
     unfold rdGo at he ⊢
     by_cases e : (rd bs s).2.e = 0
     · rw [if_pos e] at he ⊢
       obtain ⟨o, b, st⟩ := h.sound bs s hs hle e
       have hat : (rd bs s).2.at' = s.at' + (enc (rd bs s).1).length := by rw [st]
       obtain ⟨l, l1, l2, l3, l4, l5⟩ := ih bs (acc ++ [(rd bs s).1]) (rd bs s).2 e (by rw [hat]; exact b.1) he
       refine ⟨(rd bs s).1 :: l, ?_, by simp [l2], ?_, ?_, ?_⟩
       · rw [l1]; simp
       · intro x hx; rcases List.mem_cons.1 hx with rfl | hx
         · exact o
         · exact l3 x hx
       · rw [List.flatMap_cons, Has.app]; exact ⟨b, by rw [← hat]; exact l4⟩
       · rw [l5, hat, List.flatMap_cons, List.length_append, ← Nat.add_assoc]
         rw [st]
     · rw [if_neg e] at he; exact absurd he e
 have go_full : ∀ (l : List α) (bs : List UInt8) (acc : List α) (s : RS), s.e = 0 → (∀ x ∈ l, ok x) → Has bs s.at' (l.flatMap enc) → rdGo (rd bs) l.length acc s = (acc ++ l, { s with at' := s.at' + (l.flatMap enc).length }) := by
   intro l
   induction l with
   | nil => intro bs acc s _ _ _; simp [rdGo]
   | cons x l ih =>
     intro bs acc s hs ho hb
     rw [List.flatMap_cons, Has.app] at hb
     have hr := h.full bs s x hs (ho x (by simp)) hb.1
     rw [List.length_cons]
     unfold rdGo
     rw [hr]
     dsimp only
     rw [if_pos hs, ih bs (acc ++ [x]) { s with at' := s.at' + (enc x).length } hs (fun y hy => ho y (by simp [hy])) hb.2]
     rw [List.flatMap_cons, List.length_append]
     simp [Nat.add_assoc]
 have go_stick : ∀ (n : Nat) (bs : List UInt8) (acc : List α) (s : RS), s.e ≠ 0 → (rdGo (rd bs) n acc s).2.e ≠ 0 := by
   intro n bs acc s hs
   cases n with
   | zero => exact hs
   | succ n => unfold rdGo; rw [if_neg (h.stick bs s hs)]; exact h.stick bs s hs
 refine ⟨fun bs s hs => go_stick _ _ _ _ (rdMany_stick hs), fun bs s hs hle he => ?_, fun bs s l hs hl hb => ?_⟩
 have hm : (rdMany bs s).2.e = 0 := by
   by_cases e : (rdMany bs s).2.e = 0
   · exact e
   · exact absurd he (go_stick _ _ _ _ e)
 obtain ⟨b1, s1, l1, o1⟩ := rdMany_ok hs hle hm
 have hat : (rdMany bs s).2.at' = s.at' + 8 := by rw [s1]
 obtain ⟨l, g1, g2, g3, g4, g5⟩ := go_sound (rdMany bs s).1 bs [] (rdMany bs s).2 hm (by rw [hat]; omega) he
 have e1 : (rdList bs rd s).1 = l := by unfold rdList; rw [g1]; rfl
 have e2 : (rdList bs rd s).2 = { s with at' := s.at' + 8 + (l.flatMap enc).length } := by unfold rdList; rw [g5, s1]
 rw [e1, e2, g2]
 refine ⟨⟨by unfold ok64 at o1; omega, g3⟩, ?_, ?_⟩
 rw [Has.app, encNum_length]
 exact ⟨b1, by rw [← hat]; exact g4⟩
 rw [List.length_append, encNum_length, ← Nat.add_assoc]
 obtain ⟨b1, b2⟩ := Has.app.1 hb
 have hlen : l.length ≤ (l.flatMap enc).length := flat_ge hpos
 have hle := b2.1
 rw [encNum_length] at hle b2
 have hm := rdMany_full hs hl.1 b1 (by omega)
 unfold rdList
 rw [hm]
 dsimp only
 rw [go_full l bs [] { s with at' := s.at' + 8 } hs hl.2 b2]
 rw [List.length_append, encNum_length]
 simp [Nat.add_assoc]
theorem law_none {α : Type} (a : α) : Law (fun bs s => (a, s)) (fun _ => []) (fun x => x = a) :=
  ⟨fun bs s h => h, fun bs s h hle he => ⟨rfl, Has.nil hle, rfl⟩, fun bs s x h hx hb => by rw [hx]; rfl⟩
theorem law_nums (n : Nat) : Law (fun bs s => rdNums bs n s) encNums (fun l => l.length = n ∧ ∀ x ∈ l, ok64 x) := by
  induction n with
  | zero =>
    exact (law_none ([] : List Int)).map id id (fun bs s => rfl) (fun x h => by rw [h]; rfl) (fun x h => by rw [h]; simp) (fun y h => List.length_eq_zero_iff.1 h.1) (fun y h => rfl)
  | succ n ih =>
    refine (ih.pair law_num).map (fun p => p.1 ++ [p.2]) (fun l => (l.take n, (l[n]?).getD 0)) (fun bs s => rfl) (fun x h => ?_) (fun x h => ⟨by simp [h.1.1], fun y hy => ?_⟩) (fun y h => ?_) (fun y h => ?_)
    · simp [encNums]
    · rcases List.mem_append.1 hy with hy | hy
      · exact h.1.2 y hy
      · rw [List.mem_singleton] at hy; subst hy; exact h.2
    · have hn : n < y.length := by omega
      refine ⟨⟨by simp; omega, fun x hx => h.2 x (List.mem_of_mem_take hx)⟩, ?_⟩
      dsimp only
      rw [List.getElem?_eq_getElem hn]
      exact h.2 _ (List.getElem_mem hn)
    · have hn : n < y.length := by omega
      dsimp only
      rw [List.getElem?_eq_getElem hn, Option.getD_some, ← List.take_succ_eq_append_getElem hn, List.take_of_length_le (by omega)]
end Go.Abs
namespace Go.Abs
set_option autoImplicit false
set_option linter.all false
def topInv : List Nat := [0, 65, 195, 130, 134, 199, 69, 4, 77, 12, 142, 207, 203, 138, 8, 73, 154, 219, 89, 24, 28, 93, 223, 158, 215, 150, 20, 85, 81, 16, 146, 211, 117, 52, 182, 247, 243, 178, 48, 113, 56, 121, 251, 186, 190, 255, 125, 60, 239, 174, 44, 109, 105, 40, 170, 235, 162, 227, 97, 32, 36, 101, 231, 166, 234, 171, 41, 104, 108, 45, 175, 238, 167, 230, 100, 37, 33, 96, 226, 163, 112, 49, 179, 242, 246, 183, 53, 116, 61, 124, 254, 191, 187, 250, 120, 57, 159, 222, 92, 29, 25, 88, 218, 155, 210, 147, 17, 80, 84, 21, 151, 214, 5, 68, 198, 135, 131, 194, 64, 1, 72, 9, 139, 202, 206, 143, 13, 76, 149, 212, 86, 23, 19, 82, 208, 145, 216, 153, 27, 90, 94, 31, 157, 220, 15, 78, 204, 141, 137, 200, 74, 11, 66, 3, 129, 192, 196, 133, 7, 70, 224, 161, 35, 98, 102, 39, 165, 228, 173, 236, 110, 47, 43, 106, 232, 169, 122, 59, 185, 248, 252, 189, 63, 126, 55, 118, 244, 181, 177, 240, 114, 51, 127, 62, 188, 253, 249, 184, 58, 123, 50, 115, 241, 176, 180, 245, 119, 54, 229, 164, 38, 103, 99, 34, 160, 225, 168, 233, 107, 42, 46, 111, 237, 172, 10, 75, 201, 136, 140, 205, 79, 14, 71, 6, 132, 197, 193, 128, 2, 67, 144, 209, 83, 18, 22, 87, 213, 148, 221, 156, 30, 95, 91, 26, 152, 217]
set_option maxRecDepth 100000 in
theorem tab_top : ∀ i, i < 256 → (topInv[(tabOf i).toNat / 16777216]?).getD 0 = i := by decide +kernel
theorem next_top (c : BitVec 32) (x : UInt8) : (crcNext c x).toNat / 16777216 = (tabOf (xorByte (lowByte c) x).toNat).toNat / 16777216 := by
 have e : (crcNext c x) >>> 24 = (tabOf (xorByte (lowByte c) x).toNat) >>> 24 := by
   unfold crcNext
   rw [BitVec.ushiftRight_xor_distrib]
   have : (c >>> 8) >>> 24 = 0#32 := by
     apply BitVec.eq_of_toNat_eq
     have := c.isLt
     simp [BitVec.toNat_ushiftRight, Nat.shiftRight_eq_div_pow]
     omega
   rw [this]; simp
 have h := congrArg BitVec.toNat e
 simpa [BitVec.toNat_ushiftRight, Nat.shiftRight_eq_div_pow] using h
theorem next_idx {c c' : BitVec 32} {x x' : UInt8} (h : crcNext c x = crcNext c' x') : xorByte (lowByte c) x = xorByte (lowByte c') x' := by
 have h1 := next_top c x
 have h2 := next_top c' x'
 rw [h] at h1
 have e : (tabOf (xorByte (lowByte c) x).toNat).toNat / 16777216 = (tabOf (xorByte (lowByte c') x').toNat).toNat / 16777216 := by omega
 have t1 := tab_top _ (xorByte (lowByte c) x).toNat_lt
 have t2 := tab_top _ (xorByte (lowByte c') x').toNat_lt
 rw [e, t2] at t1
 exact (UInt8.toNat_inj.1 t1).symm
theorem xor_right {a b x : UInt8} (h : a ^^^ x = b ^^^ x) : a = b := by
 have : (a ^^^ x) ^^^ x = (b ^^^ x) ^^^ x := by rw [h]
 simpa [UInt8.xor_assoc] using this
theorem xor_left {a b x : UInt8} (h : x ^^^ a = x ^^^ b) : a = b := by
 have : x ^^^ (x ^^^ a) = x ^^^ (x ^^^ b) := by rw [h]
 simpa [← UInt8.xor_assoc] using this
theorem next_byte {c : BitVec 32} {x y : UInt8} (h : crcNext c x = crcNext c y) : x = y := xor_left (next_idx h)
theorem next_state {c c' : BitVec 32} {x : UInt8} (h : crcNext c x = crcNext c' x) : c = c' := by
 have hi := next_idx h
 have hl : lowByte c = lowByte c' := xor_right hi
 unfold crcNext at h
 rw [hi] at h
 have hs : c >>> 8 = c' >>> 8 := by
   have h2 := congrArg (fun z => z ^^^ tabOf (xorByte (lowByte c') x).toNat) h
   simpa [BitVec.xor_assoc] using h2
 apply BitVec.eq_of_toNat_eq
 have h1 := congrArg BitVec.toNat hs
 simp only [BitVec.toNat_ushiftRight, Nat.shiftRight_eq_div_pow] at h1
 have h2 := congrArg UInt8.toNat hl
 unfold lowByte at h2
 rw [UInt8.toNat_ofNat', UInt8.toNat_ofNat'] at h2
 omega
theorem fold_state : ∀ (l : List UInt8) {c c' : BitVec 32}, l.foldl crcNext c = l.foldl crcNext c' → c = c'
  | [], c, c', h => h
  | x :: l, c, c', h => next_state (fold_state l h)
theorem crc_set {l : List UInt8} {k : Nat} (hk : k < l.length) {x : UInt8} (h : crc (l.set k x) = crc l) : x = l[k] := by
 unfold crc crcFold at h
 have h1 : (l.set k x).foldl crcNext (BitVec.allOnes 32) = l.foldl crcNext (BitVec.allOnes 32) := by
   have h2 := congrArg (fun z => ~~~ z) h
   simpa using h2
 have e1 : l.set k x = l.take k ++ x :: l.drop (k + 1) := List.set_eq_take_append_cons_drop.trans (if_pos hk)
 have e2 : l = l.take k ++ l[k] :: l.drop (k + 1) := by rw [List.getElem_cons_drop, List.take_append_drop]
 rw [e1] at h1
 conv at h1 => rhs; rw [e2]
 rw [List.foldl_append, List.foldl_append, List.foldl_cons, List.foldl_cons] at h1
 exact next_byte (fold_state _ h1)
theorem lowByte_nat (c : BitVec 32) : (lowByte c).toNat = c.toNat % 256 := by unfold lowByte; rw [UInt8.toNat_ofNat']
theorem le4_inj {c d : BitVec 32} (h : le4 c = le4 d) : c = d := by
 rw [le4_eq, le4_eq] at h
 simp only [List.cons.injEq, and_true] at h
 obtain ⟨h0, h1, h2, h3⟩ := h
 have h0 := congrArg UInt8.toNat h0
 have h1 := congrArg UInt8.toNat h1
 have h2 := congrArg UInt8.toNat h2
 have h3 := congrArg UInt8.toNat h3
 simp only [lowByte_nat, BitVec.toNat_ushiftRight, Nat.shiftRight_eq_div_pow] at h0 h1 h2 h3
 apply BitVec.eq_of_toNat_eq
 have := c.isLt
 have := d.isLt
 omega
end Go.Abs
namespace Go.Abs
set_option autoImplicit false
set_option linter.all false
theorem wi64 {n : Int} (h : ok64 n) : IntKind.i64.wrap n = n := wrap_i64 (by have := h.1; omega) (by have := h.2; omega)
theorem u64_def (n : Int) : IntKind.u64.wrap n = n % 18446744073709551616 := by
 unfold IntKind.wrap; simp [IntKind.bits, IntKind.signed]
theorem i64_def (n : Int) : IntKind.i64.wrap n = if n % 18446744073709551616 < 9223372036854775808 then n % 18446744073709551616 else n % 18446744073709551616 - 18446744073709551616 := by
 unfold IntKind.wrap; simp [IntKind.bits, IntKind.signed]
 split <;> split <;> omega
theorem i64_ok (n : Int) : ok64 (IntKind.i64.wrap n) := by
 rw [i64_def]; unfold ok64; split <;> omega
theorem i64_u64 {n : Int} (h : ok64 n) : IntKind.i64.wrap (IntKind.u64.wrap n) = n := by
 obtain ⟨h1, h2⟩ := h
 rw [i64_def, u64_def]; split <;> omega
theorem u64_i64 {n : Int} (h : okU64 n) : IntKind.u64.wrap (IntKind.i64.wrap n) = n := by
 obtain ⟨h1, h2⟩ := h
 rw [i64_def, u64_def]; split <;> omega
theorem u64_ok (n : Int) : okU64 (IntKind.u64.wrap n) := by
 rw [u64_def]; unfold okU64; omega
theorem ok8_64 {n : Int} (h : ok8 n) : ok64 n := by
 obtain ⟨h1, h2⟩ := h; unfold ok64; omega
structure DVal.Ok (v : DVal) : Prop where
  kind : ok8 v.kind
  bits : okU64 v.bits
  text : okText v.text
theorem law_val : Law rdVal encVal DVal.Ok := by
 refine (law_byte.pair (law_num.pair law_text)).map (fun p => { kind := p.1, bits := IntKind.u64.wrap p.2.1, text := p.2.2 }) (fun v => (v.kind, IntKind.i64.wrap v.bits, v.text)) (fun bs s => rfl) (fun x h => ?_) (fun x h => ⟨h.1, u64_ok _, h.2.2⟩) (fun y h => ⟨h.kind, i64_ok _, h.text⟩) (fun y h => ?_)
 simp only [encVal, wi64 (ok8_64 h.1), i64_u64 h.2.1, List.singleton_append, List.cons_append, List.nil_append]
 simp only [u64_i64 h.bits]
theorem DVal.Ok.len (v : DVal) : 1 ≤ (encVal v).length := by rw [encVal_length]; omega
structure DCell.Ok (c : DCell) : Prop where
  kind : ok8 c.kind
  lo : ok64 c.lo
  hi : ok64 c.hi
  max : ok64 c.max
  init : c.init.Ok
  dir : ok8 c.dir
  addr : okText c.addr
theorem law_cell : Law rdCell encCell DCell.Ok := by
 refine (law_byte.pair (law_truth.pair (law_num.pair (law_num.pair (law_num.pair (law_val.pair (law_truth.pair (law_byte.pair law_text)))))))).map
   (fun p => { kind := p.1, sub := p.2.1, lo := p.2.2.1, hi := p.2.2.2.1, max := p.2.2.2.2.1, init := p.2.2.2.2.2.1, keep := p.2.2.2.2.2.2.1, dir := p.2.2.2.2.2.2.2.1, addr := p.2.2.2.2.2.2.2.2 })
   (fun c => (c.kind, c.sub, c.lo, c.hi, c.max, c.init, c.keep, c.dir, c.addr)) (fun bs s => rfl) (fun x h => ?_) (fun x h => ?_) (fun y h => ?_) (fun y h => rfl)
 simp only [encCell, wi64 (ok8_64 h.1), encNums, List.flatMap_cons, List.flatMap_nil, List.append_assoc, List.nil_append, List.append_nil]
 exact ⟨h.1, h.2.2.1, h.2.2.2.1, h.2.2.2.2.1, h.2.2.2.2.2.1, h.2.2.2.2.2.2.2.1, h.2.2.2.2.2.2.2.2⟩
 exact ⟨h.kind, trivial, h.lo, h.hi, h.max, h.init, trivial, h.dir, h.addr⟩
structure DOp.Ok (o : DOp) : Prop where
  code : ok64 o.code
  a : ok64 o.a
  b : ok64 o.b
  c : ok64 o.c
  d : ok64 o.d
  lo : ok64 o.lo
  hi : ok64 o.hi
  value : o.value.Ok
theorem all_getD {l : List Int} {p : Int → Prop} (h : ∀ x ∈ l, p x) {i : Nat} (hi : i < l.length) : p (l.getD i 0) := by
 rw [List.getD_eq_getElem?_getD, List.getElem?_eq_getElem hi]; exact h _ (List.getElem_mem hi)
theorem law_op : Law rdOp encOp DOp.Ok := by
 refine ((law_nums 7).pair law_val).map (fun p => { code := p.1.getD 0 0, a := p.1.getD 1 0, b := p.1.getD 2 0, c := p.1.getD 3 0, d := p.1.getD 4 0, lo := p.1.getD 5 0, hi := p.1.getD 6 0, value := p.2 })
   (fun o => ([o.code, o.a, o.b, o.c, o.d, o.lo, o.hi], o.value)) (fun bs s => rfl) (fun x h => ?_) (fun x h => ?_) (fun y h => ?_) (fun y h => rfl)
 have e := list7 h.1.1
 simp only [encOp]
 rw [← e]
 obtain ⟨⟨hl, ha⟩, hv⟩ := h
 exact ⟨all_getD ha (by omega), all_getD ha (by omega), all_getD ha (by omega), all_getD ha (by omega), all_getD ha (by omega), all_getD ha (by omega), all_getD ha (by omega), hv⟩
 exact ⟨⟨rfl, by simp; exact ⟨h.code, h.a, h.b, h.c, h.d, h.lo, h.hi⟩⟩, h.value⟩
structure DLoop.Ok (l : DLoop) : Prop where
  head : ok64 l.head
  stop : ok64 l.stop
  times : ok64 l.times
theorem law_loop : Law rdLoop encLoop DLoop.Ok := by
 refine (law_num.pair (law_num.pair law_num)).map (fun p => { head := p.1, stop := p.2.1, times := p.2.2 }) (fun l => (l.head, l.stop, l.times)) (fun bs s => rfl) (fun x h => ?_) (fun x h => ⟨h.1, h.2.1, h.2.2⟩) (fun y h => ⟨h.head, h.stop, h.times⟩) (fun y h => rfl)
 simp only [encLoop, encNums, List.flatMap_cons, List.flatMap_nil, List.append_nil]
structure DFlat.Ok (f : DFlat) : Prop where
  name : okText f.name
  what : ok64 f.what
  cells : ok64 f.cells
  base : ok64 f.base
  regs : ok64 f.regs
  slots : ok64 f.slots
  nops : f.ops.length < 2 ^ 63
  ops : ∀ o ∈ f.ops, o.Ok
  nloops : f.loops.length < 2 ^ 63
  loops : ∀ l ∈ f.loops, l.Ok
theorem law_flat : Law rdFlat encFlat DFlat.Ok := by
 refine (law_text.pair ((law_nums 5).pair ((law_list law_op (fun x => by rw [encOp_length]; omega)).pair (law_list law_loop (fun x => by rw [encLoop_length]; omega))))).map
   (fun p => { name := p.1, what := p.2.1.getD 0 0, cells := p.2.1.getD 1 0, base := p.2.1.getD 2 0, regs := p.2.1.getD 3 0, slots := p.2.1.getD 4 0, ops := p.2.2.1, loops := p.2.2.2 })
   (fun f => (f.name, [f.what, f.cells, f.base, f.regs, f.slots], f.ops, f.loops)) (fun bs s => rfl) (fun x h => ?_) (fun x h => ?_) (fun y h => ?_) (fun y h => rfl)
 have e := list5 h.2.1.1
 simp only [encFlat]
 conv => rhs; rw [e]
 simp only [encNums, List.flatMap_cons, List.flatMap_nil, List.append_assoc, List.nil_append, List.append_nil]
 obtain ⟨ht, ⟨hl, ha⟩, ho, hp⟩ := h
 exact ⟨ht, all_getD ha (by omega), all_getD ha (by omega), all_getD ha (by omega), all_getD ha (by omega), all_getD ha (by omega), ho.1, ho.2, hp.1, hp.2⟩
 exact ⟨h.name, ⟨rfl, by simp; exact ⟨h.what, h.cells, h.base, h.regs, h.slots⟩⟩, ⟨h.nops, h.ops⟩, h.nloops, h.loops⟩
structure DJob.Ok (j : DJob) : Prop where
  name : okText j.name
  interval : ok64 j.interval
  single : ok64 j.single
  priority : ok64 j.priority
  ncodes : j.codes.length < 2 ^ 63
  codes : ∀ x ∈ j.codes, ok64 x
  nbases : j.bases.length < 2 ^ 63
  bases : ∀ x ∈ j.bases, ok64 x
  bound : ok64 j.bound
theorem law_job : Law rdJob encJob DJob.Ok := by
 refine (law_text.pair ((law_nums 3).pair ((law_list law_num (fun x => by rw [encNum_length]; omega)).pair ((law_list law_num (fun x => by rw [encNum_length]; omega)).pair law_num)))).map
   (fun p => { name := p.1, interval := p.2.1.getD 0 0, single := p.2.1.getD 1 0, priority := p.2.1.getD 2 0, codes := p.2.2.1, bases := p.2.2.2.1, bound := p.2.2.2.2 })
   (fun j => (j.name, [j.interval, j.single, j.priority], j.codes, j.bases, j.bound)) (fun bs s => rfl) (fun x h => ?_) (fun x h => ?_) (fun y h => ?_) (fun y h => rfl)
 have e := list3 h.2.1.1
 simp only [encJob]
 conv => rhs; rw [e]
 simp only [encNums, List.flatMap_cons, List.flatMap_nil, List.append_assoc, List.nil_append, List.append_nil]
 obtain ⟨ht, ⟨hl, ha⟩, ho, hp, hb⟩ := h
 exact ⟨ht, all_getD ha (by omega), all_getD ha (by omega), all_getD ha (by omega), ho.1, ho.2, hp.1, hp.2, hb⟩
 exact ⟨h.name, ⟨rfl, by simp; exact ⟨h.interval, h.single, h.priority⟩⟩, ⟨h.ncodes, h.codes⟩, ⟨h.nbases, h.bases⟩, h.bound⟩
structure DImage.Ok (m : DImage) : Prop where
  name : okText m.name
  ncells : m.cells.length < 2 ^ 63
  cells : ∀ c ∈ m.cells, c.Ok
  ncodes : m.codes.length < 2 ^ 63
  codes : ∀ f ∈ m.codes, f.Ok
  njobs : m.jobs.length < 2 ^ 63
  jobs : ∀ j ∈ m.jobs, j.Ok
def encBody (x : DImage) : List UInt8 := encText x.name ++ encNum x.cells.length ++ x.cells.flatMap encCell ++ encNum x.codes.length ++ x.codes.flatMap encFlat ++ encNum x.jobs.length ++ x.jobs.flatMap encJob
theorem encImage_body (x : DImage) : encImage x = [114, 108, 121, 1] ++ encBody x := by
 simp only [encImage, encBody, List.append_assoc]
def rdImage (bs : List UInt8) (s : RS) : DImage × RS :=
  let a := rdText bs s
  let c := rdList bs rdCell a.2
  let f := rdList bs rdFlat c.2
  let j := rdList bs rdJob f.2
  ({ name := a.1, cells := c.1, codes := f.1, jobs := j.1 }, j.2)
theorem law_image : Law rdImage encBody DImage.Ok := by
 refine (law_text.pair ((law_list law_cell (fun x => by rw [encCell_length]; omega)).pair ((law_list law_flat (fun x => by rw [encFlat_length]; omega)).pair (law_list law_job (fun x => by rw [encJob_length]; omega))))).map
   (fun p => { name := p.1, cells := p.2.1, codes := p.2.2.1, jobs := p.2.2.2 })
   (fun m => (m.name, m.cells, m.codes, m.jobs)) (fun bs s => rfl) (fun x h => ?_) (fun x h => ?_) (fun y h => ?_) (fun y h => rfl)
 simp only [encBody, List.append_assoc]
 exact ⟨h.1, h.2.1.1, h.2.1.2, h.2.2.1.1, h.2.2.1.2, h.2.2.2.1, h.2.2.2.2⟩
 exact ⟨h.name, ⟨h.ncells, h.cells⟩, ⟨h.ncodes, h.codes⟩, h.njobs, h.jobs⟩
theorem rdImage_le {bs : List UInt8} {s : RS} (h : s.at' ≤ bs.length) : (rdImage bs s).2.at' ≤ bs.length := rdList_le (fun _ => rdJob_le) (rdList_le (fun _ => rdFlat_le) (rdList_le (fun _ => rdCell_le) (rdText_le h)))
end Go.Abs
namespace Go.Abs
open Go.Proofs
set_option autoImplicit false
set_option linter.all false
def magicB : List UInt8 := [114, 108, 121, 1]
def FrameOk (b : List UInt8) : Prop := b.length ≤ 4194304 ∧ 8 ≤ b.length ∧ b.take 4 = magicB ∧ b.drop (b.length - 4) = le4 (crc (b.take (b.length - 4)))
def magAt (i : Nat) : UInt8 := (magicB[i]?).getD 0
theorem u100 : Tryz.prog.underlying 100 = some (.array 4 5) := by kernel_rfl
theorem u28 : Tryz.prog.underlying 28 = some (.slice 5) := by kernel_rfl
theorem build_mag : aBuild Tryz.prog 100 [(0, .val (.int .u8 114)), (1, .val (.int .u8 108)), (2, .val (.int .u8 121)), (3, .val (.int .u8 1))] = some (.agg (magicB.map b8)) := by
 have := build4 114 108 121 1
 exact this
theorem idx_mag {i : Nat} (h : i < 4) : aIndex Tryz.prog 100 (.agg (magicB.map b8)) (pi i) = some (b8 (magAt i)) := by
 have : i = 0 ∨ i = 1 ∨ i = 2 ∨ i = 3 := by omega
 rcases this with rfl | rfl | rfl | rfl <;> simp [aIndex, u100, partOf, magicB, magAt]
theorem cut_lo {c : Nat} {bs : List UInt8} {a : Nat} (h : a ≤ bs.length) : aCutOp Tryz.prog 28 (PV.sl c 1 (bs.map brow)) (some (pi a)) none = some (PV.sl c 1 ((bs.drop a).map brow)) := by
  cases bs with
  | nil => simp at h; subst h; simp [aCutOp, cutOk, u28, aBound, acut, PV.sl]
  | cons b bs =>
    simp only [aCutOp, cutOk, u28, aBound, acut, PV.sl, List.map_cons, Tryz.sz5, Option.bind_some, Option.getD_some, Option.getD_none]
    simp only [List.length_cons, List.length_map] at h ⊢
    rw [if_pos (by simp), if_pos (by omega)]
    congr 1
    rw [← List.map_cons, ← List.map_take, ← List.map_drop, show (a : Int).toNat = a by omega]
    rw [List.take_of_length_le (by simp)]
theorem cut_hi {c : Nat} {bs : List UInt8} {n : Nat} (h : n ≤ bs.length) : aCutOp Tryz.prog 28 (PV.sl c 1 (bs.map brow)) none (some (pi n)) = some (PV.sl c 1 ((bs.take n).map brow)) := by
  cases bs with
  | nil => simp at h; subst h; simp [aCutOp, cutOk, u28, aBound, acut, PV.sl]
  | cons b bs =>
    simp only [aCutOp, cutOk, u28, aBound, acut, PV.sl, List.map_cons, Tryz.sz5, Option.bind_some, Option.getD_some, Option.getD_none]
    simp only [List.length_cons, List.length_map] at h ⊢
    rw [if_pos (by simp), if_pos (by omega)]
    congr 1
    rw [← List.map_cons, ← List.map_take, show (n : Int).toNat = n by omega]
    simp [PV.sl]
theorem arr4 {c : Nat} {l : List UInt8} (h : l.length = 4) : aArrayAt Tryz.prog 100 (PV.sl c 1 (l.map brow)) = some (.rptr c (l.map b8)) := by
  match l, h with
  | [a, b, d, e], _ => simp [aArrayAt, u100, PV.sl, brow_b8]
theorem load4 {l : List UInt8} (h : l.length = 4) : partOf Tryz.prog 100 (l.map b8) 0 = some (.agg (l.map b8)) := by
  match l, h with
  | [a, b, d, e], _ => simp [partOf]
theorem cells4 (l : List UInt8) : bytesOfCells (l.map b8) = some l := by
  induction l with
  | nil => rfl
  | cons b l ih =>
    have := b.toNat_lt
    show (if 0 ≤ ((b.toNat : Nat) : Int) ∧ ((b.toNat : Nat) : Int) < 256 then (bytesOfCells (l.map b8)).map (UInt8.ofNat ((b.toNat : Nat) : Int).toNat :: ·) else none) = _
    rw [if_pos ⟨by omega, by omega⟩, ih]
    simp
theorem u5' : Tryz.prog.underlying 5 = some (.int .u8) := by kernel_rfl
theorem gd100 : Tryz.prog.eqGuardType Tryz.prog.depth 100 = false := by kernel_rfl
theorem neq4' {l l' : List UInt8} (h : l.length = 4) (h' : l'.length = 4) (d : Nat) : aEqIn Tryz.prog (d + 2) 100 (.agg (l.map b8)) (.agg (l'.map b8)) = some (l == l') := by
 unfold aEqIn
 simp only [u100, aEqBytes, u5', Tryz.sz5, cells4, h, h']
 rw [if_pos (by omega)]; rfl
theorem neq4 {l l' : List UInt8} (h : l.length = 4) (h' : l'.length = 4) : aBin Tryz.prog .neq 100 (.agg (l.map b8)) (.agg (l'.map b8)) = some (pb (!(l == l'))) := by
 have e : aEqIn Tryz.prog Op.maxDepth 100 (.agg (l.map b8)) (.agg (l'.map b8)) = some (l == l') := neq4' h h' 9998
 simp only [aBin, gd100, e, if_true]
theorem bin_neq8 (P : Program) (t : TypeId) (a b : UInt8) : aBin P .neq t (b8 a) (b8 b) = some (pb (!decide (a = b))) := by
 show (aBinV .neq (.int .u8 a.toNat) (.int .u8 b.toNat)).map PV.val = _
 simp only [aBinV, Option.map_some, int_bne, Option.some.injEq]
 by_cases e : a = b
 simp [e]
 have : ¬ a.toNat = b.toNat := fun h => e (UInt8.toNat_inj.1 h)
 have h2 : ¬ (a.toNat : Int) = (b.toNat : Int) := by omega
 simp [e, h2]
theorem take_mag {b : List UInt8} {i : Nat} (h4 : i < 4) (hl : i < b.length) (h : b.take i = magicB.take i) (e : b[i] = magAt i) : b.take (i + 1) = magicB.take (i + 1) := by
 rw [List.take_succ_eq_append_getElem hl, h, e]
 have : i = 0 ∨ i = 1 ∨ i = 2 ∨ i = 3 := by omega
 rcases this with rfl | rfl | rfl | rfl <;> rfl
theorem no_mag {b : List UInt8} {i : Nat} (h4 : i < 4) (hl : i < b.length) (e : ¬ b[i] = magAt i) : ¬ FrameOk b := by
 rintro ⟨_, _, h, _⟩
 have h1 : (b.take 4)[i]? = magicB[i]? := by rw [h]
 rw [List.getElem?_take_of_lt h4, List.getElem?_eq_getElem hl] at h1
 apply e
 unfold magAt
 rw [← h1]; rfl
theorem le4_map (c : BitVec 32) : (le4 c).map b8 = [b8 (lowByte c), b8 (lowByte (c >>> 8)), b8 (lowByte (c >>> 16)), b8 (lowByte (c >>> 24))] := by rw [le4_eq]; rfl
theorem owes_ints {P : Program} {H : AS} {fn : Func} {x y : Int} {F' : AF} {H' : AS} {e : Exit} {X : Int → Int → Prop} (he : e = .normal ∨ e = .ret) (hwf : WF H) (hr : aResults P F' H' fn.results.toList = some [pi x, pi y]) (hX : X x y) (hext : H.Ext H') :
    Owes P fn H (fun r H'' => (∃ a b : Int, r = .tuple [pi a, pi b] ∧ X a b) ∧ H'' = H) e F' H' :=
  Owes.mono (fun q H' h => ⟨⟨x, y, h.1, hX⟩, h.2⟩) (owes_two he hwf hr rfl hext trivial trivial)
set_option maxRecDepth 100000 in
theorem frameIs (H : AS) (bs : List UInt8) (hb : bs.length < 2 ^ 62) (c : Nat) : ACalls Tryz.prog 20 [PV.sl c 1 (bs.map brow)] H fun q H' => (∃ a e : Int, q = .tuple [pi a, pi e] ∧ (e = 0 ↔ FrameOk bs)) ∧ H' = H := by
 refine ACalls_intro Tryz.func20 rfl (by kernel_rfl) (by simp) fun hwf hbel => ?_
 have hw4 : IntKind.i64.wrap ((bs.length : Int) - 4) = (bs.length : Int) - 4 := wrap_i64 (by omega) (by omega)
 refine T_sr fun K0 hK0 => ?_
 simp [↓put_at, ↓AF.ev_tmp, ↓ex_cons, ↓ex_nil, ↓ex_assign, ↓AF.ev_int, frame0]
 refine hK0 _ _ ?_
 try clear hK0 K0
 refine T_scope 0 (fun F H' => F 0 = PV.sl c 1 (bs.map brow) ∧ (∃ a e : Int, F 4 = pi a ∧ F 5 = pi e ∧ (e = 0 ↔ FrameOk bs)) ∧ H' = H) (by rfl) ?_ ?_
 refine T_sr fun K1 hK1 => ?_
 simp [↓put_at, ↓AF.ev_tmp, ↓ex_cons, ↓ex_nil, ↓ex_assign, ↓AF.ev_int, frame0]
 refine hK1 _ _ ?_
 try clear hK1 K1
 refine T_sr fun K2 hK2 => ?_
 simp [↓put_at, ↓AF.ev_tmp, ↓ex_cons, ↓ex_nil, ↓ex_move, ↓ex_len, ↓ex_binOp, ↓AF.ev_int, ↓ex_assign, aLen, aBin, aBinV, frame0, hw4]
 refine hK2 _ _ ?_
 try clear hK2 K2
 refine T_seqk fun K3 hK3 => ?_
 refine T_sr fun K4 hK4 => ?_
 simp [↓put_at, ↓AF.ev_tmp, ↓ex_cons, ↓ex_nil, ↓ex_move, ↓ex_len, ↓ex_binOp, ↓AF.ev_int, aLen, aBin, aBinV, frame0]
 refine hK4 _ _ ?_
 try clear hK4 K4
 refine T_cond (rfl) (fun c0 => ?_) (fun c0 => ?_)
 refine T_sr fun K5 hK5 => ?_
 simp [↓put_at, ↓AF.ev_tmp, ↓ex_cons, ↓ex_nil, ↓ex_assign, ↓AF.ev_int, frame0]
 refine hK5 _ _ ?_
 try clear hK5 K5
 refine T_goto ?_
 try simp only [thenK_goto, blockT_goto, loopT_goto, jumpT_goto, true_and]
 have hno : ¬ FrameOk bs := fun h => by have := h.1; simp at c0; omega
 simp [put_at, frame0, hno]
 refine T_skip ?_
 try simp only [tN, bN, lN]
 refine hK3 _ _ ?_
 try clear hK3 K3
 refine T_seqk fun K6 hK6 => ?_
 refine T_block ?_
 refine T_loop (fun k F H' => ∃ i : Nat, k = 4 - i ∧ i ≤ 4 ∧ i ≤ bs.length ∧ F 0 = PV.sl c 1 (bs.map brow) ∧ F 4 = pi i ∧ F 5 = pi 0 ∧ F 6 = pi ((bs.length : Int) - 4) ∧ bs.take i = magicB.take i ∧ H' = H) (4) ?_ ?_
 exact ⟨0, by simp [put_at, frame0]⟩
 rintro k F H' ⟨i, rfl, hi, hil, g0, g4, g5, g6, hmag, rfl⟩
 refine T_seqk fun K7 hK7 => ?_
 refine T_sr fun K8 hK8 => ?_
 simp [↓put_at, ↓AF.ev_tmp, ↓ex_cons, ↓ex_nil, ↓ex_move, ↓ex_binOp, ↓AF.ev_int, aBin, aBinV, frame0, g0, g4, g5, g6]
 refine hK8 _ _ ?_
 try clear hK8 K8
 refine T_cond (by first | rfl | exact g0 | exact g4 | exact g5 | exact g6) (fun c1 => ?_) (fun c1 => ?_)
 have hi4 : i < 4 := by simp at c1; omega
 refine T_skip ?_
 try simp only [tN, bN, lN]
 refine hK7 _ _ ?_
 try clear hK7 K7
 refine T_block ?_
 refine T_seqk fun K9 hK9 => ?_
 refine T_sr fun K10 hK10 => ?_
 simp [↓put_at, ↓AF.ev_tmp, ↓ex_cons, ↓ex_nil, ↓ex_move, ↓ex_len, ↓ex_binOp, aLen, aBin, aBinV, frame0, g0, g4, g5, g6]
 refine hK10 _ _ ?_
 try clear hK10 K10
 refine T_cond (by first | rfl | exact g0 | exact g4 | exact g5 | exact g6) (fun c2 => ?_) (fun c2 => ?_)
 refine T_sr fun K11 hK11 => ?_
 simp [↓put_at, ↓AF.ev_tmp, ↓ex_cons, ↓ex_nil, ↓ex_assign, ↓AF.ev_int, frame0, g0, g4, g5, g6]
 refine hK11 _ _ ?_
 try clear hK11 K11
 refine T_goto ?_
 try simp only [thenK_goto, blockT_goto, loopT_goto, jumpT_goto, true_and]
 have hno : ¬ FrameOk bs := fun h => by have := h.2.1; simp at c2; omega
 simp [put_at, frame0, hno, g0, g4, g5, g6]
 have hlt : i < bs.length := by simp at c2; omega
 refine T_skip ?_
 try simp only [tN, bN, lN]
 refine hK9 _ _ ?_
 try clear hK9 K9
 refine T_seqk fun K12 hK12 => ?_
 refine T_seqk fun K13 hK13 => ?_
 refine T_draw (fun _ => True) [] (.free 0 (.free 1 (.free 2 (.free 3 (.free 4 (.free 5 (.free 6 (.free 7 .done)))))))) mix ?_ ?_ ?_
 kernel_rfl
 kernel_rfl
 simp [↓put_at, ↓AF.ev_tmp, ↓wk_free, ↓wk_sole, ↓wk_done, ↓wanted_none, Keeps, Same, ↓wk_move, ↓wk_indexAddr, ↓wk_load, ↓wk_build, ↓AF.ev_int, ↓wk_index, ↓wk_binOp, aIndexAddr, aload, splice, frame0, g0, g4, g5, g6, aIndexAddr, sl_get (map_get (f := brow) hlt), part_byte, build_mag, idx_mag hi4, bin_neq8]
 refine hK13 _ _ ?_
 try clear hK13 K13
 refine T_cond (by first | rfl | exact g0 | exact g4 | exact g5 | exact g6) (fun c3 => ?_) (fun c3 => ?_)
 refine T_sr fun K14 hK14 => ?_
 simp [↓put_at, ↓AF.ev_tmp, ↓ex_cons, ↓ex_nil, ↓ex_assign, ↓AF.ev_int, frame0, g0, g4, g5, g6]
 refine hK14 _ _ ?_
 try clear hK14 K14
 refine T_goto ?_
 try simp only [thenK_goto, blockT_goto, loopT_goto, jumpT_goto, true_and]
 have hno : ¬ FrameOk bs := no_mag hi4 hlt (by simpa using c3)
 simp [put_at, frame0, hno, g0, g4, g5, g6]
 refine T_skip ?_
 try simp only [tN, bN, lN]
 refine hK12 _ _ ?_
 try clear hK12 K12
 refine T_rg ?_
 simp [↓put_at, ↓AF.ev_tmp, ↓ex_cons, ↓ex_nil, ↓ex_move, ↓ex_binOp, ↓AF.ev_int, ↓ex_assign, aBin, aBinV, frame0, g0, g4, g5, g6]
 refine ⟨4 - (i + 1), by omega, i + 1, rfl, by omega, by omega, by rw [wrap_i64 (by omega) (by omega)]; rfl, take_mag hi4 hlt hmag (by simpa using c3)⟩
 have hi4 : i = 4 := by simp at c1; omega
 subst hi4
 refine T_exit ?_
 try simp only [tE, bE, lE, if_true, Nat.reduceEqDiff, if_false, reduceIte, tN, bN, lN]
 refine hK6 _ _ ?_
 try clear hK6 K6
 refine T_sr fun K15 hK15 => ?_
 simp [↓put_at, ↓AF.ev_tmp, ↓ex_cons, ↓ex_nil, ↓ex_move, ↓ex_len, ↓ex_assign, aLen, frame0, g0, g4, g5, g6]
 refine hK15 _ _ ?_
 try clear hK15 K15
 refine T_seqk fun K16 hK16 => ?_
 refine T_sr fun K17 hK17 => ?_
 simp [↓put_at, ↓AF.ev_tmp, ↓ex_cons, ↓ex_nil, ↓ex_move, ↓ex_binOp, ↓AF.ev_int, aBin, aBinV, frame0, g0, g4, g5, g6]
 refine hK17 _ _ ?_
 try clear hK17 K17
 refine T_cond (by first | rfl | exact g0 | exact g4 | exact g5 | exact g6) (fun c4 => ?_) (fun c4 => ?_)
 refine T_sr fun K18 hK18 => ?_
 simp [↓put_at, ↓AF.ev_tmp, ↓ex_cons, ↓ex_nil, ↓ex_assign, ↓AF.ev_int, frame0, g0, g4, g5, g6]
 refine hK18 _ _ ?_
 try clear hK18 K18
 refine T_goto ?_
 try simp only [thenK_goto, blockT_goto, loopT_goto, jumpT_goto, true_and]
 have hno : ¬ FrameOk bs := fun h => by have := h.2.1; simp at c4; omega
 simp [put_at, frame0, hno, g0, g4, g5, g6]
 obtain ⟨n, hn4⟩ : ∃ n : Nat, bs.length = n + 4 := ⟨bs.length - 4, by omega⟩
 have hn : n ≤ bs.length := by omega
 have hcn : (bs.length : Int) - 4 = (n : Int) := by omega
 rw [hcn] at g6
 have hd4 : (bs.drop n).length = 4 := by simp; omega
 have hl4 : (le4 (crc (bs.take n))).length = 4 := le4_length _
 have hnn : bs.length - 4 = n := by omega
 refine T_skip ?_
 try simp only [tN, bN, lN]
 refine hK16 _ _ ?_
 try clear hK16 K16
 refine T_sr fun K19 hK19 => ?_
 simp [↓put_at, ↓AF.ev_tmp, ↓ex_cons, ↓ex_nil, ↓ex_move, ↓ex_assign, frame0, g0, g4, g5, g6]
 refine hK19 _ _ ?_
 try clear hK19 K19
 refine T_seqk fun K20 hK20 => ?_
 refine T_seqk fun K21 hK21 => ?_
 refine T_draw (fun _ => True) [] (.free 0 (.free 1 (.free 2 (.free 3 (.free 4 (.free 5 (.free 6 (.free 7 (.free 8 (.free 9 (.free 10 .done))))))))))) mix ?_ ?_ ?_
 kernel_rfl
 kernel_rfl
 simp [↓put_at, ↓AF.ev_tmp, ↓wk_free, ↓wk_sole, ↓wk_done, ↓wanted_none, Keeps, Same, ↓wk_move, ↓wk_slice, ↓wk_sliceToArrayPointer, ↓wk_load, ↓wk_call, ↓AF.ev_func, ↓wk_binOp, aload, frame0, g0, g4, g5, g6, cut_lo hn, cut_hi hn, arr4 hd4, load4 hd4, neq4 hd4 hl4, ← le4_map, -List.map_drop, -List.map_take]
 refine askK.of _ ?_ (fun H' hS => sumFrozen _ (bs.take n) (by simp; omega) c) ?_
 intro H' hS; first | rfl | (rw [hS.2])
 simp [↓put_at, ↓AF.ev_tmp, ↓wk_free, ↓wk_sole, ↓wk_done, ↓wanted_none, Keeps, Same, ↓wk_move, ↓wk_slice, ↓wk_sliceToArrayPointer, ↓wk_load, ↓wk_call, ↓AF.ev_func, ↓wk_binOp, aload, frame0, g0, g4, g5, g6, cut_lo hn, cut_hi hn, arr4 hd4, load4 hd4, neq4 hd4 hl4, ← le4_map, -List.map_drop, -List.map_take]
 refine askK.of _ ?_ (fun H' hS => littleIs _ (crc (bs.take n))) ?_
 intro H' hS; first | rfl | (rw [hS.2])
 simp [↓put_at, ↓AF.ev_tmp, ↓wk_free, ↓wk_sole, ↓wk_done, ↓wanted_none, Keeps, Same, ↓wk_move, ↓wk_slice, ↓wk_sliceToArrayPointer, ↓wk_load, ↓wk_call, ↓AF.ev_func, ↓wk_binOp, aload, frame0, g0, g4, g5, g6, cut_lo hn, cut_hi hn, arr4 hd4, load4 hd4, neq4 hd4 hl4, ← le4_map, -List.map_drop, -List.map_take]
 refine hK21 _ _ ?_
 try clear hK21 K21
 refine T_cond (by first | rfl | exact g0 | exact g4 | exact g5 | exact g6) (fun c5 => ?_) (fun c5 => ?_)
 have hno : ¬ FrameOk bs := fun h => by
   have h2 := h.2.2.2
   rw [hnn] at h2
   simp [h2] at c5
 refine T_rg ?_
 simp [↓put_at, ↓AF.ev_tmp, ↓ex_cons, ↓ex_nil, ↓ex_assign, ↓AF.ev_int, frame0, g0, g4, g5, g6]
 refine hK20 _ _ ?_
 try clear hK20 K20
 refine T_seqk fun K22 hK22 => ?_
 refine T_label ?_
 try simp only [thenK_normal, blockT_normal, loopT_normal, jumpT_normal]
 refine hK22 _ _ ?_
 try clear hK22 K22
 refine T_seqk fun K23 hK23 => ?_
 refine T_sr fun K24 hK24 => ?_
 simp [↓put_at, ↓AF.ev_tmp, ↓ex_cons, ↓ex_nil, ↓ex_move, ↓ex_binOp, ↓AF.ev_int, aBin, aBinV, frame0, g0, g4, g5, g6]
 refine hK24 _ _ ?_
 try clear hK24 K24
 refine T_cond (by first | rfl | exact g0 | exact g4 | exact g5 | exact g6) (fun c6 => ?_) (fun c6 => ?_)
 exact absurd c6 (by decide) --done
 refine T_skip ?_
 try simp only [tN, bN, lN]
 refine hK23 _ _ ?_
 try clear hK23 K23
 refine T_sr fun K25 hK25 => ?_
 simp [↓put_at, ↓AF.ev_tmp, ↓ex_cons, ↓ex_nil, ↓ex_move, ↓ex_assign, frame0, g0, g4, g5, g6]
 refine hK25 _ _ ?_
 try clear hK25 K25
 refine T_ret ?_
 try simp only [thenK_ret, blockT_ret, loopT_ret, jumpT_ret]
 exact owes_ints (X := fun _ e => (e = 0 ↔ FrameOk bs)) (x := n) (y := 201) (.inr rfl) hwf rfl (by simp [hno]) (.refl _)
 have hok : FrameOk bs := ⟨by simp at c0; omega, by simp at c4; omega, hmag, by rw [hnn]; simpa using c5⟩
 refine T_skip ?_
 try simp only [tN, bN, lN]
 refine hK20 _ _ ?_
 try clear hK20 K20
 refine T_seqk fun K26 hK26 => ?_
 refine T_label ?_
 try simp only [thenK_normal, blockT_normal, loopT_normal, jumpT_normal]
 refine hK26 _ _ ?_
 try clear hK26 K26
 refine T_seqk fun K27 hK27 => ?_
 refine T_sr fun K28 hK28 => ?_
 simp [↓put_at, ↓AF.ev_tmp, ↓ex_cons, ↓ex_nil, ↓ex_move, ↓ex_binOp, ↓AF.ev_int, aBin, aBinV, frame0, g0, g4, g5, g6]
 refine hK28 _ _ ?_
 try clear hK28 K28
 refine T_cond (by first | rfl | exact g0 | exact g4 | exact g5 | exact g6) (fun c7 => ?_) (fun c7 => ?_)
 refine T_rg ?_
 simp [↓put_at, ↓AF.ev_tmp, ↓ex_cons, ↓ex_nil, ↓ex_assign, ↓AF.ev_int, frame0, g0, g4, g5, g6]
 refine hK27 _ _ ?_
 try clear hK27 K27
 refine T_sr fun K29 hK29 => ?_
 simp [↓put_at, ↓AF.ev_tmp, ↓ex_cons, ↓ex_nil, ↓ex_move, ↓ex_assign, frame0, g0, g4, g5, g6]
 refine hK29 _ _ ?_
 try clear hK29 K29
 refine T_ret ?_
 try simp only [thenK_ret, blockT_ret, loopT_ret, jumpT_ret]
 exact owes_ints (X := fun _ e => (e = 0 ↔ FrameOk bs)) (x := 0) (y := 0) (.inr rfl) hwf rfl (by simp [hok]) (.refl _)
 exact absurd c7 (by decide) --done
 rintro F H' ⟨g0, ⟨a, e, g4, g5, he⟩, rfl⟩
 refine T_seqk fun KL hKL => ?_
 refine T_skip ?_
 try simp only [thenK_normal]
 refine hKL _ _ ?_
 clear hKL KL
 refine T_seqk fun K30 hK30 => ?_
 refine T_sr fun K31 hK31 => ?_
 simp [↓put_at, ↓AF.ev_tmp, ↓ex_cons, ↓ex_nil, ↓ex_move, ↓ex_binOp, ↓AF.ev_int, aBin, aBinV, frame0, g0, g4, g5]
 refine hK31 _ _ ?_
 try clear hK31 K31
 refine T_cond (by first | rfl | exact g0 | exact g4 | exact g5) (fun c8 => ?_) (fun c8 => ?_)
 refine T_rg ?_
 simp [↓put_at, ↓AF.ev_tmp, ↓ex_cons, ↓ex_nil, ↓ex_assign, ↓AF.ev_int, frame0, g0, g4, g5]
 refine hK30 _ _ ?_
 try clear hK30 K30
 refine T_sr fun K32 hK32 => ?_
 simp [↓put_at, ↓AF.ev_tmp, ↓ex_cons, ↓ex_nil, ↓ex_move, ↓ex_assign, frame0, g0, g4, g5]
 refine hK32 _ _ ?_
 try clear hK32 K32
 refine T_ret ?_
 try simp only [thenK_ret, blockT_ret, loopT_ret, jumpT_ret]
 have e0 : e = 0 := by simpa using c8
 exact owes_ints (X := fun _ e => (e = 0 ↔ FrameOk bs)) (x := 0) (y := e) (.inr rfl) hwf (by rw [show Tryz.f20.results.toList = [.tmp 2, .tmp 3] from rfl]; simp [aResults, put_at, g5]) he (.refl _)
 refine T_skip ?_
 try simp only [tN, bN, lN]
 refine hK30 _ _ ?_
 try clear hK30 K30
 refine T_sr fun K33 hK33 => ?_
 simp [↓put_at, ↓AF.ev_tmp, ↓ex_cons, ↓ex_nil, ↓ex_move, ↓ex_assign, frame0, g0, g4, g5]
 refine hK33 _ _ ?_
 try clear hK33 K33
 refine T_ret ?_
 try simp only [thenK_ret, blockT_ret, loopT_ret, jumpT_ret]
 exact owes_ints (X := fun _ e => (e = 0 ↔ FrameOk bs)) (x := a) (y := e) (.inr rfl) hwf (by rw [show Tryz.f20.results.toList = [.tmp 2, .tmp 3] from rfl]; simp [aResults, put_at, g4, g5]) he (.refl _)
end Go.Abs
namespace Go.Abs
open Go.Proofs
set_option autoImplicit false
set_option linter.all false
def rs0 : RS := ⟨4, 0, 0⟩
def body (b : List UInt8) : List UInt8 := b.take (b.length - 4)
def rdAll (b : List UInt8) : DImage × RS := rdImage (body b) rs0
def DecOk (b : List UInt8) : Prop := FrameOk b ∧ (rdAll b).2.e = 0 ∧ (rdAll b).2.at' = (body b).length ∧ checkE (rdAll b).1 = 0
def zeroImg : DImage := ⟨⟨#[]⟩, [], [], []⟩
theorem mem_flat {α : Type} {f : α → List UInt8} : ∀ {xs : List α} {x : α}, x ∈ xs → (f x).length ≤ (xs.flatMap f).length
  | y :: xs, x, h => by
    rw [List.flatMap_cons, List.length_append]
    rcases List.mem_cons.1 h with rfl | h
    · omega
    · have := mem_flat (f := f) h; omega
structure SmallImg (m : DImage) : Prop where
  cells : m.cells.length < 2 ^ 62
  codes : m.codes.length < 2 ^ 62
  jobs : m.jobs.length < 2 ^ 62
  ops : ∀ f ∈ m.codes, f.ops.length < 2 ^ 62 ∧ f.loops.length < 2 ^ 62
  addr : ∀ x ∈ m.cells, x.addr.size ≤ 281474976710656
theorem small_body {m : DImage} (h : (encBody m).length < 2 ^ 40) : SmallImg m := by
 unfold encBody at h
 simp only [List.length_append] at h
 have h1 : m.cells.length ≤ (m.cells.flatMap encCell).length := flat_ge (fun x => by rw [encCell_length]; omega)
 have h2 : m.codes.length ≤ (m.codes.flatMap encFlat).length := flat_ge (fun x => by rw [encFlat_length]; omega)
 have h3 : m.jobs.length ≤ (m.jobs.flatMap encJob).length := flat_ge (fun x => by rw [encJob_length]; omega)
 refine ⟨by omega, by omega, by omega, fun f hf => ?_, fun x hx => ?_⟩
 have h4 := mem_flat (f := encFlat) hf
 rw [encFlat_length] at h4
 have h5 : f.ops.length ≤ (f.ops.flatMap encOp).length := flat_ge (fun x => by rw [encOp_length]; omega)
 have h6 : f.loops.length ≤ (f.loops.flatMap encLoop).length := flat_ge (fun x => by rw [encLoop_length]; omega)
 exact ⟨by omega, by omega⟩
 have h4 := mem_flat (f := encCell) hx
 rw [encCell_length] at h4
 omega
theorem rd_small {b : List UInt8} (hb : b.length < 2 ^ 40) (h8 : 8 ≤ b.length) (he : (rdAll b).2.e = 0) : SmallImg (rdAll b).1 := by
 have hl : (body b).length < 2 ^ 40 := by unfold body; simp; omega
 have h4 : rs0.at' ≤ (body b).length := by unfold body rs0; simp; omega
 obtain ⟨_, hh, _⟩ := law_image.sound (body b) rs0 rfl h4 he
 have := hh.1
 exact small_body (by unfold rdAll; omega)
structure Dg (H H' : AS) (bs : List UInt8) (c : Nat) (s : RS) (row : List PV) : Prop where
  ok : RdOk H' (H.next + 1) bs c s
  img : H'.box (H.next + 2) = some [row]
  res : H'.box H.next = some [[ps ⟨#[]⟩, .nil, .nil, .nil]]
  ext : H.Ext H'
  nx : H'.next = H.next + 3
theorem Dg.step {H H' : AS} {bs : List UInt8} {c : Nat} {s s' : RS} {row row' : List PV} (h : Dg H H' bs c s row) (hle : s'.at' ≤ bs.length) : Dg H ((H'.setBox (H.next + 1) [rrow bs c s']).setBox (H.next + 2) [row']) bs c s' row' :=
  ⟨⟨by simp, hle, h.ok.small⟩, by simp, by simpa using h.res, .setBox (by omega) (.setBox (by omega) h.ext), h.nx⟩
theorem Dg.set {H H' : AS} {bs : List UInt8} {c : Nat} {s s' : RS} {row : List PV} (h : Dg H H' bs c s row) (hle : s'.at' ≤ bs.length) : Dg H (H'.setBox (H.next + 1) [rrow bs c s']) bs c s' row :=
  ⟨⟨by simp, hle, h.ok.small⟩, by simpa using h.img, by simpa using h.res, .setBox (by omega) h.ext, h.nx⟩
theorem frozen_img (c : Nat) (m : DImage) : ∀ p ∈ m.row c, Frozen p := by simp [DImage.row]
theorem below_img (n c : Nat) (m : DImage) : ∀ p ∈ m.row c, Below n p := by
 simp only [DImage.row, List.mem_cons, List.not_mem_nil, or_false]
 rintro p (rfl | rfl | rfl | rfl)
 simp
 rw [below_sl]; intro r hr p hp; obtain ⟨x, _, rfl⟩ := List.mem_map.1 hr; exact below_rowCell n x p hp
 rw [below_sl]; intro r hr p hp; obtain ⟨x, _, rfl⟩ := List.mem_map.1 hr; exact below_rowFlat n c x p hp
 rw [below_sl]; intro r hr p hp; obtain ⟨x, _, rfl⟩ := List.mem_map.1 hr; exact below_rowJob n c x p hp
theorem owes_dec {H : AS} {fn : Func} {m : DImage} {d : Nat} {x y : Int} {F' : AF} {H' : AS} {e : Exit} {X : DImage → Int → Int → Prop} (he : e = .normal ∨ e = .ret) (hwf : WF H) (hr : aResults Tryz.prog F' H' fn.results.toList = some [.agg (m.row H.color), pi x, pi y]) (hX : X m x y) (hext : H.Ext H') :
    Owes Tryz.prog fn H (fun r H'' => (∃ (m : DImage) (a b : Int), r = .tuple [.agg (m.row H.color), pi a, pi b] ∧ X m a b) ∧ H'' = H) e F' H' := by
 refine Owes.mono (k := fun r H'' => r = .tuple [.agg (m.row H.color), pi x, pi y] ∧ H'' = H) (fun q H' h => ⟨⟨m, x, y, h.1, hX⟩, h.2⟩) ?_
 have hv : ∀ H1, frzV H1 (.agg (m.row H.color)) = (.agg (m.row H.color), H1) := fun H1 => frzV_one ⟨fun cs h => by cases h; exact frozen_img _ _, trivial⟩
 refine owes_pure he hwf hr ?_ ?_ ?_ <;> simp [frzVs, hv, frzV_one (p := pi _) ⟨by simp, by simp⟩, packed]
 exact hext
 exact below_img _ _ _
theorem owes_zero {H : AS} {fn : Func} {x y : Int} {F' : AF} {H' : AS} {e : Exit} {X : DImage → Int → Int → Prop} (he : e = .normal ∨ e = .ret) (hwf : WF H) (hr : aResults Tryz.prog F' H' fn.results.toList = some [.agg [ps ⟨#[]⟩, .nil, .nil, .nil], pi x, pi y]) (hX : X zeroImg x y) (hext : H.Ext H') :
    Owes Tryz.prog fn H (fun r H'' => (∃ (m : DImage) (a b : Int), r = .tuple [.agg (m.row H.color), pi a, pi b] ∧ X m a b) ∧ H'' = H) e F' H' := by
 refine Owes.mono (k := fun r H'' => r = .tuple [.agg (zeroImg.row H.color), pi x, pi y] ∧ H'' = H) (fun q H' h => ⟨⟨zeroImg, x, y, h.1, hX⟩, h.2⟩) ?_
 have hv : ∀ H1, frzV H1 (.agg [ps ⟨#[]⟩, .nil, .nil, .nil]) = (.agg (zeroImg.row H.color), H1) := fun H1 => rfl
 refine owes_pure he hwf hr ?_ ?_ ?_ <;> simp [frzVs, hv, frzV_one (p := pi _) ⟨by simp, by simp⟩, packed]
 exact hext
 exact below_img _ _ _
set_option maxRecDepth 100000 in
theorem decodeIs (H : AS) (bs : List UInt8) (hb : bs.length < 2 ^ 62) (c : Nat) : ACalls Tryz.prog 11 [PV.sl c 1 (bs.map brow)] H fun q H' => (∃ (m : DImage) (a e : Int), q = .tuple [.agg (m.row H.color), pi a, pi e] ∧ (e = 0 ↔ DecOk bs) ∧ (e = 0 → m = (rdAll bs).1 ∧ a = 0)) ∧ H' = H := by
 refine ACalls_intro Tryz.func11 rfl (by kernel_rfl) (by simp) fun hwf hbel => ?_
 refine T_sr fun K0 hK0 => ?_
 simp [↓put_at, ↓AF.ev_tmp, ↓ex_cons, ↓ex_nil, ↓ex_alloc, ↓ex_assign, ↓AF.ev_int, aalloc, frame0]
 refine hK0 _ _ ?_
 try clear hK0 K0
 refine T_seqk fun K1 hK1 => ?_
 refine T_sr fun K2 hK2 => ?_
 simp [↓put_at, ↓AF.ev_tmp, ↓ex_cons, ↓ex_nil, ↓ex_move, ↓ex_call, ↓AF.ev_func, ↓ex_extract, ↓ex_assign, aExtract, frame0]
 refine callK.of (frameIs _ bs hb c) ?_
 rintro _ Hz ⟨⟨fa, fe, rfl, hfe⟩, hz⟩
 subst Hz
 simp [↓put_at, ↓AF.ev_tmp, ↓ex_cons, ↓ex_nil, ↓ex_move, ↓ex_call, ↓AF.ev_func, ↓ex_extract, ↓ex_assign, aExtract, frame0]
 refine hK2 _ _ ?_
 try clear hK2 K2
 refine T_sr fun K3 hK3 => ?_
 simp [↓put_at, ↓AF.ev_tmp, ↓ex_cons, ↓ex_nil, ↓ex_move, ↓ex_binOp, ↓AF.ev_int, aBin, aBinV, frame0]
 refine hK3 _ _ ?_
 try clear hK3 K3
 refine T_cond (rfl) (fun c0 => ?_) (fun c0 => ?_)
 refine T_sr fun K4 hK4 => ?_
 simp [↓put_at, ↓AF.ev_tmp, ↓ex_cons, ↓ex_nil, ↓ex_build, ↓ex_move, ↓ex_store, ↓ex_assign, aBuild, aBuild.go, splice, astore, frame0]
 refine hK4 _ _ ?_
 try clear hK4 K4
 refine T_ret ?_
 try simp only [thenK_ret, blockT_ret, loopT_ret, jumpT_ret]
 have hne : ¬ fe = 0 := by simpa using c0
 have hno : ¬ DecOk bs := fun h => hne (hfe.2 h.1)
 refine owes_zero (x := fa) (y := fe) (X := (fun m a e => (e = 0 ↔ DecOk bs) ∧ (e = 0 → m = (rdAll bs).1 ∧ a = 0))) (.inr rfl) hwf ?_ ⟨⟨fun h => absurd h hne, fun h => absurd h hno⟩, fun h => absurd h hne⟩ (.setBox (Nat.le_refl _) (.bump (.setBox (Nat.le_refl _) (.refl _))))
 rw [show Tryz.f11.results.toList = [.cell 2 26, .tmp 3, .tmp 4] from rfl]
 simp [aResults, aload, partOf, put_at, frame0]
 have hok : FrameOk bs := hfe.1 (by simpa using c0)
 have hn4 : bs.length - 4 ≤ bs.length := by omega
 have h8 := hok.2.1
 have hw4 : IntKind.i64.wrap ((bs.length : Int) - 4) = ((bs.length - 4 : Nat) : Int) := by rw [wrap_i64 (by omega) (by omega)]; omega
 have hlong := hok.1
 have hbl : (body bs).length < 2 ^ 40 := by unfold body; simp; omega
 have h4 : rs0.at' ≤ (body bs).length := by unfold body rs0; simp; omega
 refine T_skip ?_
 try simp only [tN, bN, lN]
 refine hK1 _ _ ?_
 try clear hK1 K1
 refine T_sr fun K5 hK5 => ?_
 simp [↓put_at, ↓AF.ev_tmp, ↓ex_cons, ↓ex_nil, ↓ex_move, ↓ex_len, ↓ex_binOp, ↓AF.ev_int, ↓ex_slice, ↓ex_build, ↓ex_box, ↓ex_assign, aLen, aBin, aBinV, aBuild, aBuild.go, splice, abox, frame0, hw4, cut_hi hn4, abox]
 refine hK5 _ _ ?_
 try clear hK5 K5
 refine T_mid (fun F H' => F 2 = .ptr H.next 1 0 0 ∧ F 7 = .ptr (H.next + 1) 1 0 0 ∧ F 8 = .ptr (H.next + 2) 1 0 0 ∧ Dg H H' (body bs) c (rdText (body bs) rs0).2 [ps (rdText (body bs) rs0).1, .nil, .nil, .nil]) ?_ ?_
 refine T_rg ?_
 simp [↓put_at, ↓AF.ev_tmp, ↓ex_cons, ↓ex_nil, ↓ex_move, ↓ex_call, ↓AF.ev_func, ↓ex_build, ↓ex_alloc, ↓ex_store, aBuild, aBuild.go, splice, aalloc, astore, frame0]
 refine callK.of (textIs _ (H.next + 1) (body bs) c rs0 ⟨by simp [rrow, rs0, body], h4, hbl⟩) ?_
 rintro _ H2 ⟨rfl, rfl⟩
 simp [↓put_at, ↓AF.ev_tmp, ↓ex_cons, ↓ex_nil, ↓ex_move, ↓ex_call, ↓AF.ev_func, ↓ex_build, ↓ex_alloc, ↓ex_store, aBuild, aBuild.go, splice, aalloc, astore, frame0]
 exact ⟨⟨by simp, rdText_le h4, hbl⟩, by simp, by simp [nx2], .setBox (by omega) (.bump (.setBox (by omega) (.setBox (by omega) (.bump (.setBox (by omega) (.bump (.setBox (Nat.le_refl _) (.refl _)))))))), by simp⟩
 rintro F H' ⟨g2, g7, g8, hg⟩
 have hcol : H'.color = H.color := hg.ext.color
 have hn := hg.nx
 have b1 := hg.ok.box
 have b2 := hg.img
 have b3 := hg.res
 refine T_mid (fun F H' => F 2 = .ptr H.next 1 0 0 ∧ F 7 = .ptr (H.next + 1) 1 0 0 ∧ F 8 = .ptr (H.next + 2) 1 0 0 ∧ Dg H H' (body bs) c (rdList (body bs) rdCell (rdText (body bs) rs0).2).2 [ps (rdText (body bs) rs0).1, PV.sl H.color 11 ((rdList (body bs) rdCell (rdText (body bs) rs0).2).1.map DCell.row), .nil, .nil]) ?_ ?_
 refine T_rg ?_
 simp [↓put_at, ↓AF.ev_tmp, ↓ex_cons, ↓ex_nil, ↓ex_move, ↓ex_makeFunc, ↓ex_call, ↓AF.ev_func, ↓ex_fieldAddr, ↓ex_store, aFieldAddr, astore, splice, frame0, g2, g7, g8, hn, b2, hcol]
 refine callK.of (cellsIs _ (H.next + 1) (body bs) c _ hg.ok) ?_
 rintro _ H2 ⟨rfl, rfl⟩
 simp [↓put_at, ↓AF.ev_tmp, ↓ex_cons, ↓ex_nil, ↓ex_move, ↓ex_makeFunc, ↓ex_call, ↓AF.ev_func, ↓ex_fieldAddr, ↓ex_store, aFieldAddr, astore, splice, frame0, g2, g7, g8, hn, b2, hcol]
 exact hg.step (rdList_le (fun _ => rdCell_le) (rdText_le h4))
 rintro F H' ⟨g2, g7, g8, hg⟩
 have hcol : H'.color = H.color := hg.ext.color
 have hn := hg.nx
 have b1 := hg.ok.box
 have b2 := hg.img
 have b3 := hg.res
 refine T_mid (fun F H' => F 2 = .ptr H.next 1 0 0 ∧ F 7 = .ptr (H.next + 1) 1 0 0 ∧ F 8 = .ptr (H.next + 2) 1 0 0 ∧ Dg H H' (body bs) c (rdList (body bs) rdFlat (rdList (body bs) rdCell (rdText (body bs) rs0).2).2).2 [ps (rdText (body bs) rs0).1, PV.sl H.color 11 ((rdList (body bs) rdCell (rdText (body bs) rs0).2).1.map DCell.row), PV.sl H.color 8 ((rdList (body bs) rdFlat (rdList (body bs) rdCell (rdText (body bs) rs0).2).2).1.map (DFlat.row H.color)), .nil]) ?_ ?_
 refine T_rg ?_
 simp [↓put_at, ↓AF.ev_tmp, ↓ex_cons, ↓ex_nil, ↓ex_move, ↓ex_makeFunc, ↓ex_call, ↓AF.ev_func, ↓ex_fieldAddr, ↓ex_store, aFieldAddr, astore, splice, frame0, g2, g7, g8, g2, g7, g8, hn, b2, hcol]
 refine callK.of (flatsIs _ (H.next + 1) (body bs) c _ hg.ok) ?_
 rintro _ H2 ⟨rfl, rfl⟩
 simp [↓put_at, ↓AF.ev_tmp, ↓ex_cons, ↓ex_nil, ↓ex_move, ↓ex_makeFunc, ↓ex_call, ↓AF.ev_func, ↓ex_fieldAddr, ↓ex_store, aFieldAddr, astore, splice, frame0, g2, g7, g8, g2, g7, g8, hn, b2, hcol]
 exact hg.step (rdList_le (fun _ => rdFlat_le) (rdList_le (fun _ => rdCell_le) (rdText_le h4)))
 rintro F H' ⟨g2, g7, g8, hg⟩
 have hcol : H'.color = H.color := hg.ext.color
 have hn := hg.nx
 have b1 := hg.ok.box
 have b2 := hg.img
 have b3 := hg.res
 refine T_mid (fun F H' => F 2 = .ptr H.next 1 0 0 ∧ F 7 = .ptr (H.next + 1) 1 0 0 ∧ F 8 = .ptr (H.next + 2) 1 0 0 ∧ Dg H H' (body bs) c (rdList (body bs) rdJob (rdList (body bs) rdFlat (rdList (body bs) rdCell (rdText (body bs) rs0).2).2).2).2 [ps (rdText (body bs) rs0).1, PV.sl H.color 11 ((rdList (body bs) rdCell (rdText (body bs) rs0).2).1.map DCell.row), PV.sl H.color 8 ((rdList (body bs) rdFlat (rdList (body bs) rdCell (rdText (body bs) rs0).2).2).1.map (DFlat.row H.color)), PV.sl H.color 7 ((rdList (body bs) rdJob (rdList (body bs) rdFlat (rdList (body bs) rdCell (rdText (body bs) rs0).2).2).2).1.map (DJob.row H.color))]) ?_ ?_
 refine T_rg ?_
 simp [↓put_at, ↓AF.ev_tmp, ↓ex_cons, ↓ex_nil, ↓ex_move, ↓ex_makeFunc, ↓ex_call, ↓AF.ev_func, ↓ex_fieldAddr, ↓ex_store, aFieldAddr, astore, splice, frame0, g2, g7, g8, g2, g7, g8, g2, g7, g8, hn, b2, hcol]
 refine callK.of (jobsIs _ (H.next + 1) (body bs) c _ hg.ok) ?_
 rintro _ H2 ⟨rfl, rfl⟩
 simp [↓put_at, ↓AF.ev_tmp, ↓ex_cons, ↓ex_nil, ↓ex_move, ↓ex_makeFunc, ↓ex_call, ↓AF.ev_func, ↓ex_fieldAddr, ↓ex_store, aFieldAddr, astore, splice, frame0, g2, g7, g8, g2, g7, g8, g2, g7, g8, hn, b2, hcol]
 exact hg.step (rdList_le (fun _ => rdJob_le) (rdList_le (fun _ => rdFlat_le) (rdList_le (fun _ => rdCell_le) (rdText_le h4))))
 rintro F H' ⟨g2, g7, g8, hg⟩
 have hcol : H'.color = H.color := hg.ext.color
 have hn := hg.nx
 have b1 := hg.ok.box
 have b2 := hg.img
 have b3 := hg.res
 by_cases he : (rdList (body bs) rdJob (rdList (body bs) rdFlat (rdList (body bs) rdCell (rdText (body bs) rs0).2).2).2).2.e = 0
 have hst : (rdAll bs).2 = (rdList (body bs) rdJob (rdList (body bs) rdFlat (rdList (body bs) rdCell (rdText (body bs) rs0).2).2).2).2 := rfl
 have hsm : SmallImg (rdAll bs).1 := rd_small (by omega) h8 he
 refine T_seqk fun K6 hK6 => ?_
 refine T_seqk fun K7 hK7 => ?_
 refine T_draw (fun _ => True) [] (.free 0 (.free 1 (.free 2 (.free 3 (.free 4 (.free 5 (.free 6 (.free 7 (.free 8 (.free 9 (.free 10 (.free 11 (.free 12 (.free 13 (.free 14 (.free 15 (.free 16 .done))))))))))))))))) mix ?_ ?_ ?_
 kernel_rfl
 kernel_rfl
 simp [↓put_at, ↓AF.ev_tmp, ↓wk_free, ↓wk_sole, ↓wk_done, ↓wanted_none, Keeps, Same, ↓wk_move, ↓wk_nilCheck, ↓wk_fieldAddr, ↓wk_load, ↓wk_binOp, ↓AF.ev_int, ↓wanted_some, ↓wk_len, ↓wk_pick, ↓AF.ev_bool, aFieldAddr, aload, partOf, aBin, aBinV, aLen, frame0, g2, g7, g8, g2, g7, g8, g2, g7, g8, g2, g7, g8, he, b1, rrow, int_beq]
 refine hK7 _ _ ?_
 try clear hK7 K7
 refine T_cond (by first | rfl | exact g2 | exact g7 | exact g8 | exact g2 | exact g7 | exact g8 | exact g2 | exact g7 | exact g8 | exact g2 | exact g7 | exact g8 | exact he) (fun c1 => ?_) (fun c1 => ?_)
 have hno : ¬ DecOk bs := fun h => by
   have h2 := h.2.2.1
   rw [hst] at h2
   simp at c1
   omega
 refine T_rg ?_
 simp [↓put_at, ↓AF.ev_tmp, ↓ex_cons, ↓ex_nil, ↓ex_move, ↓ex_nilCheck, ↓ex_fieldAddr, ↓ex_load, ↓ex_call, ↓AF.ev_int, ↓AF.ev_func, aFieldAddr, aload, partOf, frame0, g2, g7, g8, g2, g7, g8, g2, g7, g8, g2, g7, g8, he, b1, rrow]
 refine callK.of (refuseIs _ (H.next + 1) (body bs) c _ hg.ok _ _) ?_
 rintro _ H2 ⟨rfl, rfl⟩
 simp [↓put_at, ↓AF.ev_tmp, ↓ex_cons, ↓ex_nil, ↓ex_move, ↓ex_nilCheck, ↓ex_fieldAddr, ↓ex_load, ↓ex_call, ↓AF.ev_int, ↓AF.ev_func, aFieldAddr, aload, partOf, frame0, g2, g7, g8, g2, g7, g8, g2, g7, g8, g2, g7, g8, he, b1, rrow]
 refine hK6 _ _ ?_
 try clear hK6 K6
 refine T_seqk fun K8 hK8 => ?_
 refine T_sr fun K9 hK9 => ?_
 simp [↓put_at, ↓AF.ev_tmp, ↓ex_cons, ↓ex_nil, ↓ex_move, ↓ex_nilCheck, ↓ex_fieldAddr, ↓ex_load, ↓ex_binOp, ↓AF.ev_int, aFieldAddr, aload, partOf, aBin, aBinV, frame0, g2, g7, g8, g2, g7, g8, g2, g7, g8, g2, g7, g8, he, b1, rrow, rdRefuse, int_bne]
 refine hK9 _ _ ?_
 try clear hK9 K9
 refine T_cond (by first | rfl | exact g2 | exact g7 | exact g8 | exact g2 | exact g7 | exact g8 | exact g2 | exact g7 | exact g8 | exact g2 | exact g7 | exact g8 | exact he) (fun c2 => ?_) (fun c2 => ?_)
 refine T_seqk fun K10 hK10 => ?_
 refine T_draw (fun id => id = H.next + 1) [] (.free 0 (.free 1 (.free 2 (.free 3 (.free 4 (.free 5 (.free 6 (.free 7 (.free 8 (.sole 9 (.free 10 (.free 11 .done)))))))))))) mix ?_ ?_ ?_
 kernel_rfl
 kernel_rfl
 simp [↓put_at, ↓AF.ev_tmp, ↓wk_free, ↓wk_sole, ↓wk_done, ↓wanted_none, Keeps, Same, ↓wk_build, ↓wk_move, ↓wk_nilCheck, ↓wk_fieldAddr, ↓wk_load, ↓ex_store, ↓wk_assign, aBuild, aBuild.go, splice, aFieldAddr, aload, partOf, astore, frame0, g2, g7, g8, g2, g7, g8, g2, g7, g8, g2, g7, g8, he, b1, b2, b3, rrow, rdRefuse]
 refine hK10 _ _ ?_
 try clear hK10 K10
 refine T_ret ?_
 try simp only [thenK_ret, blockT_ret, loopT_ret, jumpT_ret]
 have hne : ¬ (3 : Int) = 0 := by decide
 refine owes_zero (x := (((rdList (body bs) rdJob (rdList (body bs) rdFlat (rdList (body bs) rdCell (rdText (body bs) rs0).2).2).2).2.at' : Nat) : Int)) (y := 3) (X := (fun m a e => (e = 0 ↔ DecOk bs) ∧ (e = 0 → m = (rdAll bs).1 ∧ a = 0))) (.inr rfl) hwf ?_ ⟨⟨fun h => absurd h hne, fun h => absurd h hno⟩, fun h => absurd h hne⟩ (.setBox (Nat.le_refl _) (.setBox (by omega) hg.ext))
 rw [show Tryz.f11.results.toList = [.cell 2 26, .tmp 3, .tmp 4] from rfl]
 simp [aResults, aload, partOf, put_at, frame0, g2]
 exact absurd c2 (by simp) --done
 have hge : (rdAll bs).2.at' = (body bs).length := by
   have h1 := rdImage_le (bs := body bs) (s := rs0) h4
   have h2 : (rdAll bs).2.at' ≤ (body bs).length := h1
   rw [hst] at h2 ⊢
   simp at c1
   omega
 refine T_skip ?_
 try simp only [tN, bN, lN]
 refine hK6 _ _ ?_
 try clear hK6 K6
 refine T_seqk fun K11 hK11 => ?_
 refine T_sr fun K12 hK12 => ?_
 simp [↓put_at, ↓AF.ev_tmp, ↓ex_cons, ↓ex_nil, ↓ex_move, ↓ex_nilCheck, ↓ex_fieldAddr, ↓ex_load, ↓ex_binOp, ↓AF.ev_int, aFieldAddr, aload, partOf, aBin, aBinV, frame0, g2, g7, g8, g2, g7, g8, g2, g7, g8, g2, g7, g8, he, b1, rrow, rdRefuse, int_bne]
 refine hK12 _ _ ?_
 try clear hK12 K12
 refine T_cond (by first | rfl | exact g2 | exact g7 | exact g8 | exact g2 | exact g7 | exact g8 | exact g2 | exact g7 | exact g8 | exact g2 | exact g7 | exact g8 | exact he) (fun c3 => ?_) (fun c3 => ?_)
 exact absurd c3 (by simp [he]) --done
 refine T_skip ?_
 try simp only [tN, bN, lN]
 refine hK11 _ _ ?_
 try clear hK11 K11
 refine T_seqk fun K13 hK13 => ?_
 refine T_sr fun K14 hK14 => ?_
 simp [↓put_at, ↓AF.ev_tmp, ↓ex_cons, ↓ex_nil, ↓ex_load, ↓ex_call, ↓AF.ev_func, ↓ex_move, ↓ex_extract, ↓ex_assign, aload, partOf, aExtract, frame0, g2, g7, g8, g2, g7, g8, g2, g7, g8, g2, g7, g8, he, b2]
 refine callK.of (checkIs _ H.color (rdAll bs).1 hsm.cells hsm.codes hsm.jobs hsm.ops hsm.addr) ?_
 rintro _ Hz ⟨⟨ca, cb, rfl⟩, hz⟩
 subst Hz
 simp [↓put_at, ↓AF.ev_tmp, ↓ex_cons, ↓ex_nil, ↓ex_load, ↓ex_call, ↓AF.ev_func, ↓ex_move, ↓ex_extract, ↓ex_assign, aload, partOf, aExtract, frame0, g2, g7, g8, g2, g7, g8, g2, g7, g8, g2, g7, g8, he, b2]
 refine hK14 _ _ ?_
 try clear hK14 K14
 refine T_sr fun K15 hK15 => ?_
 simp [↓put_at, ↓AF.ev_tmp, ↓ex_cons, ↓ex_nil, ↓ex_move, ↓ex_binOp, ↓AF.ev_int, aBin, aBinV, frame0, g2, g7, g8, g2, g7, g8, g2, g7, g8, g2, g7, g8, he, int_bne]
 refine hK15 _ _ ?_
 try clear hK15 K15
 refine T_cond (by first | rfl | exact g2 | exact g7 | exact g8 | exact g2 | exact g7 | exact g8 | exact g2 | exact g7 | exact g8 | exact g2 | exact g7 | exact g8 | exact he) (fun c4 => ?_) (fun c4 => ?_)
 have hno : ¬ DecOk bs := fun h => by
   have h2 := h.2.2.2
   simp [h2] at c4
 refine T_sr fun K16 hK16 => ?_
 simp [↓put_at, ↓AF.ev_tmp, ↓ex_cons, ↓ex_nil, ↓ex_build, ↓ex_move, ↓ex_store, ↓ex_assign, ↓AF.ev_int, aBuild, aBuild.go, splice, astore, frame0, g2, g7, g8, g2, g7, g8, g2, g7, g8, g2, g7, g8, he, b3]
 refine hK16 _ _ ?_
 try clear hK16 K16
 refine T_ret ?_
 try simp only [thenK_ret, blockT_ret, loopT_ret, jumpT_ret]
 have hne : ¬ checkE (rdAll bs).1 = 0 := by simpa using c4
 refine owes_zero (x := 0) (y := checkE (rdAll bs).1) (X := (fun m a e => (e = 0 ↔ DecOk bs) ∧ (e = 0 → m = (rdAll bs).1 ∧ a = 0))) (.inr rfl) hwf ?_ ⟨⟨fun h => absurd h hne, fun h => absurd h hno⟩, fun h => absurd h hne⟩ (.setBox (Nat.le_refl _) hg.ext)
 rw [show Tryz.f11.results.toList = [.cell 2 26, .tmp 3, .tmp 4] from rfl]
 simp [aResults, aload, partOf, put_at, frame0, g2]
 have hok2 : DecOk bs := ⟨hok, he, hge, by simpa using c4⟩
 refine T_skip ?_
 try simp only [tN, bN, lN]
 refine hK13 _ _ ?_
 try clear hK13 K13
 refine T_sr fun K17 hK17 => ?_
 simp [↓put_at, ↓AF.ev_tmp, ↓ex_cons, ↓ex_nil, ↓ex_load, ↓ex_store, ↓ex_assign, ↓AF.ev_int, aload, partOf, astore, splice, frame0, g2, g7, g8, g2, g7, g8, g2, g7, g8, g2, g7, g8, he, b2, b3]
 refine hK17 _ _ ?_
 try clear hK17 K17
 refine T_ret ?_
 try simp only [thenK_ret, blockT_ret, loopT_ret, jumpT_ret]
 refine owes_dec (m := (rdAll bs).1) (d := 0) (x := 0) (y := 0) (X := (fun m a e => (e = 0 ↔ DecOk bs) ∧ (e = 0 → m = (rdAll bs).1 ∧ a = 0))) (.inr rfl) hwf ?_ ⟨by simp [hok2], fun _ => ⟨rfl, rfl⟩⟩ (.setBox (Nat.le_refl _) hg.ext)
 rw [show Tryz.f11.results.toList = [.cell 2 26, .tmp 3, .tmp 4] from rfl]
 simp [aResults, aload, partOf, put_at, frame0, g2]
 rfl
 have hno : ¬ DecOk bs := fun h => he h.2.1
 refine T_seqk fun K18 hK18 => ?_
 refine T_seqk fun K19 hK19 => ?_
 refine T_draw (fun _ => True) [] (.free 0 (.free 1 (.free 2 (.free 3 (.free 4 (.free 5 (.free 6 (.free 7 (.free 8 (.free 9 (.free 10 (.free 11 (.free 12 (.free 13 (.free 14 (.free 15 (.free 16 .done))))))))))))))))) mix ?_ ?_ ?_
 kernel_rfl
 kernel_rfl
 simp [↓put_at, ↓AF.ev_tmp, ↓wk_free, ↓wk_sole, ↓wk_done, ↓wanted_none, Keeps, Same, ↓wk_move, ↓wk_nilCheck, ↓wk_fieldAddr, ↓wk_load, ↓wk_binOp, ↓AF.ev_int, ↓wanted_some, ↓wk_len, ↓wk_pick, ↓AF.ev_bool, aFieldAddr, aload, partOf, aBin, aBinV, aLen, frame0, g2, g7, g8, g2, g7, g8, g2, g7, g8, g2, g7, g8, he, b1, rrow, int_beq]
 refine hK19 _ _ ?_
 try clear hK19 K19
 refine T_cond (by first | rfl | exact g2 | exact g7 | exact g8 | exact g2 | exact g7 | exact g8 | exact g2 | exact g7 | exact g8 | exact g2 | exact g7 | exact g8 | exact he) (fun c5 => ?_) (fun c5 => ?_)
 exact absurd c5 (by simp) --done
 refine T_skip ?_
 try simp only [tN, bN, lN]
 refine hK18 _ _ ?_
 try clear hK18 K18
 refine T_seqk fun K20 hK20 => ?_
 refine T_sr fun K21 hK21 => ?_
 simp [↓put_at, ↓AF.ev_tmp, ↓ex_cons, ↓ex_nil, ↓ex_move, ↓ex_nilCheck, ↓ex_fieldAddr, ↓ex_load, ↓ex_binOp, ↓AF.ev_int, aFieldAddr, aload, partOf, aBin, aBinV, frame0, g2, g7, g8, g2, g7, g8, g2, g7, g8, g2, g7, g8, he, b1, rrow, rdRefuse, int_bne]
 refine hK21 _ _ ?_
 try clear hK21 K21
 refine T_cond (by first | rfl | exact g2 | exact g7 | exact g8 | exact g2 | exact g7 | exact g8 | exact g2 | exact g7 | exact g8 | exact g2 | exact g7 | exact g8 | exact he) (fun c6 => ?_) (fun c6 => ?_)
 refine T_seqk fun K22 hK22 => ?_
 refine T_draw (fun id => id = H.next + 1) [] (.free 0 (.free 1 (.free 2 (.free 3 (.free 4 (.free 5 (.free 6 (.free 7 (.free 8 (.sole 9 (.free 10 (.free 11 .done)))))))))))) mix ?_ ?_ ?_
 kernel_rfl
 kernel_rfl
 simp [↓put_at, ↓AF.ev_tmp, ↓wk_free, ↓wk_sole, ↓wk_done, ↓wanted_none, Keeps, Same, ↓wk_build, ↓wk_move, ↓wk_nilCheck, ↓wk_fieldAddr, ↓wk_load, ↓ex_store, ↓wk_assign, aBuild, aBuild.go, splice, aFieldAddr, aload, partOf, astore, frame0, g2, g7, g8, g2, g7, g8, g2, g7, g8, g2, g7, g8, he, b1, b2, b3, rrow, rdRefuse]
 refine hK22 _ _ ?_
 try clear hK22 K22
 refine T_ret ?_
 try simp only [thenK_ret, blockT_ret, loopT_ret, jumpT_ret]
 have hne := he
 refine owes_zero (x := (rdList (body bs) rdJob (rdList (body bs) rdFlat (rdList (body bs) rdCell (rdText (body bs) rs0).2).2).2).2.of) (y := (rdList (body bs) rdJob (rdList (body bs) rdFlat (rdList (body bs) rdCell (rdText (body bs) rs0).2).2).2).2.e) (X := (fun m a e => (e = 0 ↔ DecOk bs) ∧ (e = 0 → m = (rdAll bs).1 ∧ a = 0))) (.inr rfl) hwf ?_ ⟨⟨fun h => absurd h hne, fun h => absurd h hno⟩, fun h => absurd h hne⟩ (.setBox (Nat.le_refl _) hg.ext)
 rw [show Tryz.f11.results.toList = [.cell 2 26, .tmp 3, .tmp 4] from rfl]
 simp [aResults, aload, partOf, put_at, frame0, g2]
 exact absurd c6 (by simp [he]) --done
end Go.Abs
