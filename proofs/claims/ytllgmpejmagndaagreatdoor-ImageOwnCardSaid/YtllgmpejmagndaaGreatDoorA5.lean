/- Texts of ours, merged: the abstract layer, the walks over the loaded functions, the plain laws. -/
import Derived.Test.YtllgmpejmagndaaGreatDoorA4
import Derived.Test.YtllgmpejmagndaaGreatDoorA2
import Derived.Test.YtllgmpejmagndaaGreatDoorA3
namespace Go.Abs
open Go.Proofs
set_option autoImplicit false
set_option linter.all false
set_option maxRecDepth 100000
set_option maxHeartbeats 40000000
section
def addrStep (av : List ByteArray) (x : DCell) : List ByteArray := if x.addr = ⟨#[]⟩ then av else addTo av x.addr
def addrs (m : DImage) (i : Nat) : List ByteArray := (m.cells.take i).foldl addrStep []
theorem addrs_succ {m : DImage} {i : Nat} (h : i < m.cells.length) : addrs m (i + 1) = addrStep (addrs m i) (nth m.cells (i : Int)) := by
 unfold addrs
 rw [List.take_succ_eq_append_getElem h, nth_get _ _ h, List.foldl_append]; rfl
theorem addrs_zero (m : DImage) : addrs m 0 = [] := rfl
theorem nx4 (n : Nat) : (n < n + 1 + 1) = True := by simp; omega
def takeJ (xs : List DJob) (i : Nat) : List DJob := xs.take i
theorem takeJ_length (xs : List DJob) (i : Nat) : (takeJ xs i).length ≤ xs.length := by unfold takeJ; simp; omega
theorem cut24 (c : Nat) (xs : List DJob) (i : Nat) (h : i < xs.length) : aCutOp Tryz.prog 24 (PV.sl c 7 (xs.map (DJob.row c))) none (some (pi i)) = some (PV.sl c 7 ((takeJ xs i).map (DJob.row c))) := by
 have hu : Tryz.prog.underlying 24 = some (.slice 55) := by kernel_rfl
 cases xs with
 | nil => simp at h
 | cons x xs =>
  simp only [List.length_cons] at h
  simp [aCutOp, cutOk, hu, PV.sl, aBound, acut, takeJ]
  omega
attribute [local simp ↓] ex_makeMap
attribute [local simp] abox frame0 nx2 nx3 nx2' bump_setBox setBox_setBox beq_bytes wrap_nn int_beq int_bne DVal.row DOp.row DLook.row DFlat.row DType.row DNeed.row DCell.row eq42 DImage.row DJob.row DLoop.row irow idx22 idx23 idx24 idx45 idx46 idx53 idx9 setMap_setBox setMap_bump aFieldAddr aload partOf aUn aLen aBin aBinV amakeMap aalloc astore splice aExtract AS.Ext.refl AS.Ext.bump AS.Ext.setBox AS.Ext.kill AS.Ext.setMap
def jobE (m : DImage) (n : Nat) : Int := if nameB (nth m.jobs (n : Int)).name = true then (if containsN (takeJ m.jobs n) (nth m.jobs (n : Int)) = true then 6 else if jobB m (nth m.jobs (n : Int)) = true then (0) else 204) else 6
def cellE (m : DImage) (i : Nat) : Int := if cellB (nth m.cells (i : Int)) (addrs m i) = true then (0) else 203
def checkE (m : DImage) : Int := if nameB m.name = true then (if 4096 < (m.cells.length : Int) then 4 else if 64 < (m.codes.length : Int) then 4 else if 16 < (m.jobs.length : Int) then 4 else if errs m.cells.length (cellE m) = 0 then (if (codesE m) = 0 then (if errs m.jobs.length (jobE m) = 0 then 0 else errs m.jobs.length (jobE m)) else (codesE m)) else errs m.cells.length (cellE m)) else 6
theorem checkIs (H : AS)  (c : Nat) (m : DImage) (hmc : m.cells.length < 2 ^ 62) (hmd : m.codes.length < 2 ^ 62) (hmj : m.jobs.length < 2 ^ 62) (hsz : ∀ f ∈ m.codes, f.ops.length < 2 ^ 62 ∧ f.loops.length < 2 ^ 62) (hsa : ∀ x ∈ m.cells, x.addr.size ≤ 281474976710656) : ACalls Tryz.prog 15 [.agg (m.row c)] H fun q H' => (∃ a b : Int, q = .tuple [pi a, pi b, pi (checkE m)]) ∧ H' = H := by
 refine ACalls_intro Tryz.func15 rfl (by kernel_rfl) (by simp) fun hwf hbel => ?_
 refine T_sr fun K0 hK0 => ?_
 simp
 apply hK0
 refine T_seqk fun K1 hK1 => ?_
 refine T_block ?_
 refine T_sr fun K2 hK2 => ?_
 simp
 refine callK.of (isNameIs _ m.name) ?_
 rintro _ Hz ⟨rfl, hz⟩
 subst Hz
 simp
 apply hK2
 by_cases h0 : nameB m.name = true
 refine T_condF (by first | rfl | simp [h0]) ?_
 refine T_sr fun K3 hK3 => ?_
 simp [h0]
 apply hK3
 by_cases h1 : 4096 < (m.cells.length : Int)
 refine T_condT (by first | rfl | simp [h0, h1]) ?_
 refine T_sr fun K4 hK4 => ?_
 simp [h0, h1]
 apply hK4
 refine T_ret ?_
 try simp only [kr]
 exact owes_tri (a := 4096) (b := 0) (e := 4) (.inr rfl) hwf rfl (by simp [h0, h1]) (by simp [h0, h1]) (by simp [h0, h1]) (show checkE m = 4 from by
   simp only [checkE, if_pos h0, if_pos h1]) (by simp (maxDischargeDepth := 20))
 refine T_condF (by first | rfl | simp [h0, h1]) ?_
 refine T_sr fun K5 hK5 => ?_
 simp [h0, h1]
 apply hK5
 by_cases h2 : 64 < (m.codes.length : Int)
 refine T_condT (by first | rfl | simp [h0, h1, h2]) ?_
 refine T_sr fun K6 hK6 => ?_
 simp [h0, h1, h2]
 apply hK6
 refine T_ret ?_
 try simp only [kr]
 exact owes_tri (a := 64) (b := 0) (e := 4) (.inr rfl) hwf rfl (by simp [h0, h1, h2]) (by simp [h0, h1, h2]) (by simp [h0, h1, h2]) (show checkE m = 4 from by
   simp only [checkE, if_pos h0, if_neg h1, if_pos h2]) (by simp (maxDischargeDepth := 20))
 refine T_condF (by first | rfl | simp [h0, h1, h2]) ?_
 refine T_sr fun K7 hK7 => ?_
 simp [h0, h1, h2]
 apply hK7
 by_cases h3 : 16 < (m.jobs.length : Int)
 refine T_condT (by first | rfl | simp [h0, h1, h2, h3]) ?_
 refine T_sr fun K8 hK8 => ?_
 simp [h0, h1, h2, h3]
 apply hK8
 refine T_ret ?_
 try simp only [kr]
 exact owes_tri (a := 16) (b := 0) (e := 4) (.inr rfl) hwf rfl (by simp [h0, h1, h2, h3]) (by simp [h0, h1, h2, h3]) (by simp [h0, h1, h2, h3]) (show checkE m = 4 from by
   simp only [checkE, if_pos h0, if_neg h1, if_neg h2, if_pos h3]) (by simp (maxDischargeDepth := 20))
 refine T_condF (by first | rfl | simp [h0, h1, h2, h3]) ?_
 refine T_skip ?_
 try simp only [kn]
 apply hK1
 refine T_sr fun K9 hK9 => ?_
 simp [h0, h1, h2, h3]
 apply hK9
 refine T_seqk fun K10 hK10 => ?_
 refine T_sr fun K11 hK11 => ?_
 simp [h0, h1, h2, h3]
 apply hK11
 refine T_block ?_
 refine T_loop (fun k F H' => ∃ i : Nat, k = m.cells.length - i ∧ i ≤ m.cells.length ∧ F 1 = .ptr H.next 1 0 0 ∧ F 5 = .map (H.next + 1) ∧ F 35 = PV.sl c 11 (m.cells.map DCell.row) ∧ F 36 = pi m.cells.length ∧ F 37 = pi i ∧ H.Ext H' ∧ H.next < H'.next ∧ H'.box H.next = some [m.row c] ∧ H'.mp (H.next + 1) = some ((addrs m i).map ent) ∧ ∀ y : Nat, y < i → cellE m y = 0) (m.cells.length) ?_ ?_
 refine ⟨0, ?_⟩
 simp (maxDischargeDepth := 20) [addrs_zero, nx4, h0, h1, h2, h3]
 rintro k F H1 ⟨i, rfl, hi, g1, g5, g35, g36, g37, hext, hn1, m0, mm, hall⟩
 have hnx := hext.next
 have hne : (H.next = H1.next) = False := by simp; omega
 have hne2 : (H1.next = H.next) = False := by simp; omega
 refine T_sr fun K12 hK12 => ?_
 simp [g1, g5, g35, g36, g37, hext, hn1, m0, mm, hne, hne2, h0, h1, h2, h3]
 apply hK12
 refine T_seqk fun K13 hK13 => ?_
 by_cases h4 : i < m.cells.length
 refine T_condT (by first | rfl | simp [h0, h1, h2, h3, h4]) ?_
 refine T_skip ?_
 try simp only [kn]
 apply hK13
 refine T_seqk fun K14 hK14 => ?_
 refine T_block ?_
 refine T_sr fun K15 hK15 => ?_
 simp [g1, g5, g35, g36, g37, hext, hn1, m0, mm, hne, hne2, h0, h1, h2, h3, h4]
 apply hK15
 refine T_sr fun K16 hK16 => ?_
 have hlt : i < m.cells.length := h4
 simp [g1, g5, g35, g36, g37, hext, hn1, m0, mm, hne, hne2, h0, h1, h2, h3, h4]
 refine callK.of (cellIsB _ (nth m.cells (i : Int)) (H.next + 1) (addrs m i) (by simp [mm]) (hsa _ (nth_mem hlt))) ?_
 rintro _ H2 ⟨rfl, av', rfl, hav⟩
 simp [g1, g5, g35, g36, g37, hext, hn1, m0, mm, hne, hne2, h0, h1, h2, h3, h4]
 apply hK16
 by_cases h5 : cellB (nth m.cells (i : Int)) (addrs m i) = true
 refine T_condF (by first | rfl | simp [h0, h1, h2, h3, h4, h5]) ?_
 refine T_skip ?_
 try simp only [kn]
 apply hK14
 refine T_rg ?_
 simp [g1, g5, g35, g36, g37, hext, hn1, m0, mm, hne, hne2, h0, h1, h2, h3, h4, h5]
 have hx : cellE m i = 0 := by
  simp only [cellE, if_pos h5]
 refine ⟨m.cells.length - (i + 1), by omega, i + 1, by omega, by omega, by rw [wrap_i64 (by omega) (by omega)]; rfl, by simp (maxDischargeDepth := 20) [hext, hnx], by omega, by rw [hav (by assumption), addrs_succ hlt]; rfl, fun y hy => ?_⟩
 by_cases e : y = i
 subst e; exact hx
 exact hall y (by omega)
 refine T_condT (by first | rfl | simp [h0, h1, h2, h3, h4, h5]) ?_
 refine T_sr fun K17 hK17 => ?_
 simp [g1, g5, g35, g36, g37, hext, hn1, m0, mm, hne, hne2, h0, h1, h2, h3, h4, h5]
 apply hK17
 refine T_ret ?_
 try simp only [kr]
 have hlei : errs m.cells.length (cellE m) = 203 := errs_bad hall (by omega) (by
   simp only [cellE, if_neg h5]) (by decide)
 have hnei : ¬ errs m.cells.length (cellE m) = 0 := by rw [hlei]; decide
 exact owes_tri (a := (i : Int)) (b := 0) (e := 203) (.inr rfl) hwf rfl (by simp [g1, g5, g35, g36, g37, hext, hn1, m0, mm, hne, hne2, h0, h1, h2, h3, hnei]) (by simp [g1, g5, g35, g36, g37, hext, hn1, m0, mm, hne, hne2, h0, h1, h2, h3, hnei]) (by simp [g1, g5, g35, g36, g37, hext, hn1, m0, mm, hne, hne2, h0, h1, h2, h3, hnei]) (show checkE m = 203 from by
   simp only [checkE, if_pos h0, if_neg h1, if_neg h2, if_neg h3, if_neg hnei]
   exact hlei) (by simp (maxDischargeDepth := 20) [hext, hnx])
 have hge : i = m.cells.length := by omega
 have hl4 : errs m.cells.length (cellE m) = 0 := errs_ok hall hge
 refine T_condF (by first | rfl | simp [h0, h1, h2, h3, h4, hl4]) ?_
 refine T_exit ?_
 try simp only [ke, kn, if_true, if_false, Nat.reduceEqDiff, reduceIte]
 apply hK10
 refine T_seqk fun K18 hK18 => ?_
 refine T_sr fun K19 hK19 => ?_
 simp [g1, g5, g35, g36, g37, hext, hn1, m0, mm, hne, hne2, h0, h1, h2, h3, h4, hl4]
 refine callK.of (codesIs _ c m (by omega) (by omega) hsz) ?_
 rintro _ Hz ⟨⟨ca, cb, rfl⟩, hz⟩
 subst Hz
 simp [g1, g5, g35, g36, g37, hext, hn1, m0, mm, hne, hne2, h0, h1, h2, h3, h4, hl4]
 apply hK19
 refine T_sr fun K20 hK20 => ?_
 simp [g1, g5, g35, g36, g37, hext, hn1, m0, mm, hne, hne2, h0, h1, h2, h3, h4, hl4]
 apply hK20
 by_cases h6 : (codesE m) = 0
 refine T_condF (by first | rfl | simp [h0, h1, h2, h3, h4, hl4, h6]) ?_
 refine T_skip ?_
 try simp only [kn]
 apply hK18
 refine T_seqk fun K21 hK21 => ?_
 refine T_sr fun K22 hK22 => ?_
 simp [g1, g5, g35, g36, g37, hext, hn1, m0, mm, hne, hne2, h0, h1, h2, h3, h4, hl4, h6]
 apply hK22
 refine T_block ?_
 refine T_loop (fun k F H' => ∃ n : Nat, k = m.jobs.length - n ∧ n ≤ m.jobs.length ∧ F 1 = .ptr H.next 1 0 0 ∧ F 60 = PV.sl c 7 (m.jobs.map (DJob.row c)) ∧ F 61 = pi m.jobs.length ∧ F 62 = pi n ∧ H.Ext H' ∧ H.next < H'.next ∧ H'.box H.next = some [m.row c] ∧ ∀ y : Nat, y < n → jobE m y = 0) (m.jobs.length) ?_ ?_
 refine ⟨0, ?_⟩
 simp (maxDischargeDepth := 20) [g1, g5, g35, g36, g37, hext, hn1, m0, mm, hne, hne2, hnx, h0, h1, h2, h3, h4, hl4, h6]
 rintro k F H2 ⟨n, rfl, hi2, g1, g60, g61, g62, hext2, hn2, m02, hall2⟩
 have hnx2 := hext2.next
 have hne3 : (H.next = H2.next) = False := by simp; omega
 have hne4 : (H2.next = H.next) = False := by simp; omega
 refine T_sr fun K23 hK23 => ?_
 simp [g1, g60, g61, g62, hext2, hn2, m02, hne3, hne4, h0, h1, h2, h3, h4, hl4, h6]
 apply hK23
 refine T_seqk fun K24 hK24 => ?_
 by_cases h7 : n < m.jobs.length
 refine T_condT (by first | rfl | simp [h0, h1, h2, h3, h4, hl4, h6, h7]) ?_
 refine T_skip ?_
 try simp only [kn]
 apply hK24
 refine T_seqk fun K25 hK25 => ?_
 refine T_block ?_
 refine T_sr fun K26 hK26 => ?_
 simp [g1, g60, g61, g62, hext2, hn2, m02, hne3, hne4, h0, h1, h2, h3, h4, hl4, h6, h7]
 apply hK26
 refine T_seqk fun K27 hK27 => ?_
 refine T_seqk fun K28 hK28 => ?_
 by_cases h8 : nameB (nth m.jobs (n : Int)).name = true
 refine T_rg ?_
 have hlt : n < m.jobs.length := h7
 simp [g1, g60, g61, g62, hext2, hn2, m02, hne3, hne4, h0, h1, h2, h3, h4, hl4, h6, h7, h8, cut24 c m.jobs n hlt]
 refine callK.of (isNameIs _ (nth m.jobs (n : Int)).name) ?_
 rintro _ Hz ⟨rfl, hz⟩
 subst Hz
 simp [g1, g60, g61, g62, hext2, hn2, m02, hne3, hne4, h0, h1, h2, h3, h4, hl4, h6, h7, h8, cut24 c m.jobs n hlt]
 refine callK.of (containsIs _ c H2.next (takeJ m.jobs n) (nth m.jobs (n : Int)) (by simp) (Nat.lt_of_le_of_lt (takeJ_length _ _) hmj)) ?_
 rintro _ Hz ⟨rfl, hz⟩
 subst Hz
 simp [g1, g60, g61, g62, hext2, hn2, m02, hne3, hne4, h0, h1, h2, h3, h4, hl4, h6, h7, h8, cut24 c m.jobs n hlt]
 apply hK28
 by_cases h9 : containsN (takeJ m.jobs n) (nth m.jobs (n : Int)) = true
 refine T_condT (by first | rfl | simp [h0, h1, h2, h3, h4, hl4, h6, h7, h8, h9]) ?_
 refine T_sr fun K29 hK29 => ?_
 simp [g1, g60, g61, g62, hext2, hn2, m02, hne3, hne4, h0, h1, h2, h3, h4, hl4, h6, h7, h8, h9]
 apply hK29
 refine T_ret ?_
 try simp only [kr]
 have hlen : errs m.jobs.length (jobE m) = 6 := errs_bad hall2 (by omega) (by
   simp only [jobE, if_pos h8, if_pos h9]) (by decide)
 have hnen : ¬ errs m.jobs.length (jobE m) = 0 := by rw [hlen]; decide
 exact owes_tri (a := (n : Int)) (b := 0) (e := 6) (.inr rfl) hwf rfl (by simp [g1, g60, g61, g62, hext2, hn2, m02, hne3, hne4, h0, h1, h2, h3, h4, hl4, h6, hnen]) (by simp [g1, g60, g61, g62, hext2, hn2, m02, hne3, hne4, h0, h1, h2, h3, h4, hl4, h6, hnen]) (by simp [g1, g60, g61, g62, hext2, hn2, m02, hne3, hne4, h0, h1, h2, h3, h4, hl4, h6, hnen]) (show checkE m = 6 from by
   simp only [checkE, if_pos h0, if_neg h1, if_neg h2, if_neg h3, if_neg h4, if_pos hl4, if_pos h6, if_neg hnen]
   exact hlen) (by simp (maxDischargeDepth := 20) [hext2, hnx2])
 refine T_condF (by first | rfl | simp [h0, h1, h2, h3, h4, hl4, h6, h7, h8, h9]) ?_
 refine T_skip ?_
 try simp only [kn]
 apply hK27
 refine T_sr fun K30 hK30 => ?_
 simp [g1, g60, g61, g62, hext2, hn2, m02, hne3, hne4, h0, h1, h2, h3, h4, hl4, h6, h7, h8, h9]
 refine callK.of (jobIsB _ c m (nth m.jobs (n : Int)) hmc hmd) ?_
 rintro _ Hz ⟨rfl, hz⟩
 subst Hz
 simp [g1, g60, g61, g62, hext2, hn2, m02, hne3, hne4, h0, h1, h2, h3, h4, hl4, h6, h7, h8, h9]
 apply hK30
 by_cases h10 : jobB m (nth m.jobs (n : Int)) = true
 refine T_condF (by first | rfl | simp [h0, h1, h2, h3, h4, hl4, h6, h7, h8, h9, h10]) ?_
 refine T_skip ?_
 try simp only [kn]
 apply hK25
 refine T_rg ?_
 simp [g1, g60, g61, g62, hext2, hn2, m02, hne3, hne4, h0, h1, h2, h3, h4, hl4, h6, h7, h8, h9, h10]
 have hx : jobE m n = 0 := by
  simp only [jobE, if_pos h8, if_neg h9, if_pos h10]
 refine ⟨m.jobs.length - (n + 1), by omega, n + 1, by omega, by omega, by rw [wrap_i64 (by omega) (by omega)]; rfl, by simp (maxDischargeDepth := 20) [hext2, hnx2], by omega, fun y hy => ?_⟩
 by_cases e : y = n
 subst e; exact hx
 exact hall2 y (by omega)
 refine T_condT (by first | rfl | simp [h0, h1, h2, h3, h4, hl4, h6, h7, h8, h9, h10]) ?_
 refine T_sr fun K31 hK31 => ?_
 simp [g1, g60, g61, g62, hext2, hn2, m02, hne3, hne4, h0, h1, h2, h3, h4, hl4, h6, h7, h8, h9, h10]
 apply hK31
 refine T_ret ?_
 try simp only [kr]
 have hlen : errs m.jobs.length (jobE m) = 204 := errs_bad hall2 (by omega) (by
   simp only [jobE, if_pos h8, if_neg h9, if_neg h10]) (by decide)
 have hnen : ¬ errs m.jobs.length (jobE m) = 0 := by rw [hlen]; decide
 exact owes_tri (a := (n : Int)) (b := 0) (e := 204) (.inr rfl) hwf rfl (by simp [g1, g60, g61, g62, hext2, hn2, m02, hne3, hne4, h0, h1, h2, h3, h4, hl4, h6, hnen]) (by simp [g1, g60, g61, g62, hext2, hn2, m02, hne3, hne4, h0, h1, h2, h3, h4, hl4, h6, hnen]) (by simp [g1, g60, g61, g62, hext2, hn2, m02, hne3, hne4, h0, h1, h2, h3, h4, hl4, h6, hnen]) (show checkE m = 204 from by
   simp only [checkE, if_pos h0, if_neg h1, if_neg h2, if_neg h3, if_neg h4, if_pos hl4, if_pos h6, if_neg hnen]
   exact hlen) (by simp (maxDischargeDepth := 20) [hext2, hnx2])
 refine T_rg ?_
 have hlt : n < m.jobs.length := h7
 simp [g1, g60, g61, g62, hext2, hn2, m02, hne3, hne4, h0, h1, h2, h3, h4, hl4, h6, h7, h8, cut24 c m.jobs n hlt]
 refine callK.of (isNameIs _ (nth m.jobs (n : Int)).name) ?_
 rintro _ Hz ⟨rfl, hz⟩
 subst Hz
 simp [g1, g60, g61, g62, hext2, hn2, m02, hne3, hne4, h0, h1, h2, h3, h4, hl4, h6, h7, h8, cut24 c m.jobs n hlt]
 apply hK28
 refine T_condT (by first | rfl | simp [h0, h1, h2, h3, h4, hl4, h6, h7, h8]) ?_
 refine T_sr fun K32 hK32 => ?_
 simp [g1, g60, g61, g62, hext2, hn2, m02, hne3, hne4, h0, h1, h2, h3, h4, hl4, h6, h7, h8]
 apply hK32
 refine T_ret ?_
 try simp only [kr]
 have hlen : errs m.jobs.length (jobE m) = 6 := errs_bad hall2 (by omega) (by
   simp only [jobE, if_neg h8]) (by decide)
 have hnen : ¬ errs m.jobs.length (jobE m) = 0 := by rw [hlen]; decide
 exact owes_tri (a := (n : Int)) (b := 0) (e := 6) (.inr rfl) hwf rfl (by simp [g1, g60, g61, g62, hext2, hn2, m02, hne3, hne4, h0, h1, h2, h3, h4, hl4, h6, hnen]) (by simp [g1, g60, g61, g62, hext2, hn2, m02, hne3, hne4, h0, h1, h2, h3, h4, hl4, h6, hnen]) (by simp [g1, g60, g61, g62, hext2, hn2, m02, hne3, hne4, h0, h1, h2, h3, h4, hl4, h6, hnen]) (show checkE m = 6 from by
   simp only [checkE, if_pos h0, if_neg h1, if_neg h2, if_neg h3, if_neg h4, if_pos hl4, if_pos h6, if_neg hnen]
   exact hlen) (by simp (maxDischargeDepth := 20) [hext2, hnx2])
 have hge2 : n = m.jobs.length := by omega
 have hl7 : errs m.jobs.length (jobE m) = 0 := errs_ok hall2 hge2
 refine T_condF (by first | rfl | simp [h0, h1, h2, h3, h4, hl4, h6, h7, hl7]) ?_
 refine T_exit ?_
 try simp only [ke, kn, if_true, if_false, Nat.reduceEqDiff, reduceIte]
 apply hK21
 refine T_sr fun K33 hK33 => ?_
 simp [g1, g60, g61, g62, hext2, hn2, m02, hne3, hne4, h0, h1, h2, h3, h4, hl4, h6, h7, hl7]
 apply hK33
 refine T_ret ?_
 try simp only [kr]
 exact owes_tri (a := 0) (b := 0) (e := 0) (.inr rfl) hwf rfl (by simp [g1, g60, g61, g62, hext2, hn2, m02, hne3, hne4, h0, h1, h2, h3, h4, hl4, h6, h7, hl7]) (by simp [g1, g60, g61, g62, hext2, hn2, m02, hne3, hne4, h0, h1, h2, h3, h4, hl4, h6, h7, hl7]) (by simp [g1, g60, g61, g62, hext2, hn2, m02, hne3, hne4, h0, h1, h2, h3, h4, hl4, h6, h7, hl7]) (show checkE m = 0 from by
   simp only [checkE, if_pos h0, if_neg h1, if_neg h2, if_neg h3, if_neg h4, if_pos hl4, if_pos h6, if_neg h7, if_pos hl7]) (by simp (maxDischargeDepth := 20) [hext2, hnx2])
 refine T_condT (by first | rfl | simp [h0, h1, h2, h3, h4, hl4, h6]) ?_
 refine T_sr fun K34 hK34 => ?_
 simp [g1, g5, g35, g36, g37, hext, hn1, m0, mm, hne, hne2, h0, h1, h2, h3, h4, hl4, h6]
 apply hK34
 refine T_ret ?_
 try simp only [kr]
 exact owes_tri (a := ca) (b := cb) (e := (codesE m)) (.inr rfl) hwf rfl (by simp [g1, g5, g35, g36, g37, hext, hn1, m0, mm, hne, hne2, h0, h1, h2, h3, h4, hl4, h6]) (by simp [g1, g5, g35, g36, g37, hext, hn1, m0, mm, hne, hne2, h0, h1, h2, h3, h4, hl4, h6]) (by simp [g1, g5, g35, g36, g37, hext, hn1, m0, mm, hne, hne2, h0, h1, h2, h3, h4, hl4, h6]) (show checkE m = (codesE m) from by
   simp only [checkE, if_pos h0, if_neg h1, if_neg h2, if_neg h3, if_neg h4, if_pos hl4, if_neg h6]) (by simp (maxDischargeDepth := 20) [hext, hnx])
 refine T_condT (by first | rfl | simp [h0]) ?_
 refine T_sr fun K35 hK35 => ?_
 simp [h0]
 apply hK35
 refine T_ret ?_
 try simp only [kr]
 exact owes_tri (a := 0) (b := 0) (e := 6) (.inr rfl) hwf rfl (by simp [h0]) (by simp [h0]) (by simp [h0]) (show checkE m = 6 from by
   simp only [checkE, if_neg h0]) (by simp (maxDischargeDepth := 20))
end
theorem errs_zero {n : Nat} {g : Nat → Int} (h : errs n g = 0) : ∀ i, i < n → g i = 0 := by
 intro i hi
 rcases Classical.em (g i = 0) with e | e
 exact e
 exfalso
 unfold errs at h
 cases hf : ((List.range n).map g).find? (fun e => decide (e ≠ 0)) with
 | none =>
  have := List.find?_eq_none.1 hf (g i) (List.mem_map.2 ⟨i, List.mem_range.2 hi, rfl⟩)
  simp [e] at this
 | some x =>
  have := List.find?_some hf
  rw [hf] at h
  simp at h this
  exact this h
theorem nameB_size {s : ByteArray} (h : nameB s = true) : s.size ≤ 24 := by
 unfold nameB at h
 split at h
 cases h
 split at h
 cases h
 omega
theorem mayV_size {v : DVal} (h : mayV v = true) : v.text.size ≤ 254 := by
 have hnil : v.text = ⟨#[]⟩ → v.text.size ≤ 254 := fun e => by rw [e]; decide
 unfold mayV at h
 repeat' split at h
 all_goals first
  | contradiction
  | omega
  | exact hnil (by assumption)
theorem fitsT_size {t : DType} {v : DVal} (h : fitsT t v = 0) : v.text.size ≤ 254 := by
 have key : mayV v = true := by
  unfold fitsT at h
  rcases Classical.em (mayV v = true) with e | e
  ·exact e
  ·exfalso
   simp only [e] at h
   repeat' split at h
   all_goals first | contradiction | omega
 exact mayV_size key
theorem eqv_size {k b k' b' : Int} {t : ByteArray} (h : eqv k b t k' b' ⟨#[]⟩ = true) : t.size ≤ 254 := by
 simp [eqv] at h
 rw [h.2]; decide
theorem zeroB_size {n : DNeed} {o : DOp} (h : zeroB n o = true) (hv : n.value = true) : o.value.text.size ≤ 254 := by
 rcases Classical.em (eqv o.value.kind o.value.bits o.value.text 0 0 ⟨#[]⟩ = true) with e | e
 exact eqv_size e
 exfalso
 simp [zeroB, hv, e] at h
theorem zeroB_text {n : DNeed} {o o' : DOp} (hv : n.value = true) (hn : ¬ o'.value.text.size ≤ 254) (ho : o.value = o'.value) : zeroB n o = false := by
 cases e : zeroB n o with
 | false => rfl
 | true => exact absurd (ho ▸ zeroB_size e hv) hn
theorem flowB_size {k : DLook} {o : DOp} (h : flowB k o = true) : o.value.text.size ≤ 254 := by
 rcases Classical.em (o.value.text.size ≤ 254) with e | e
 exact e
 exfalso
 have hz : ∀ (a b c d x : Bool) (o' : DOp), o'.value = o.value → zeroB { a := a, b := b, c := c, d := d, bounds := x, value := true } o' = false := fun a b c d x o' ho => zeroB_text rfl e ho
 simp [flowB, hz] at h
theorem mayO_size {k : DLook} {o : DOp} (h : mayO k o = true) : o.value.text.size ≤ 254 := by
 rcases Classical.em (o.value.text.size ≤ 254) with e | e
 exact e
 exfalso
 have hz : ∀ (a b c d x : Bool) (o' : DOp), o'.value = o.value → zeroB { a := a, b := b, c := c, d := d, bounds := x, value := true } o' = false := fun a b c d x o' ho => zeroB_text rfl e ho
 have hm : mayV o.value = false := Bool.eq_false_iff.2 fun x => e (mayV_size x)
 have he : eqv o.value.kind o.value.bits o.value.text 20 0 ⟨#[]⟩ = false := Bool.eq_false_iff.2 fun x => e (eqv_size x)
 have hf : flowB k o = false := Bool.eq_false_iff.2 fun x => e (flowB_size x)
 simp [mayO, hz, hm, he, hf] at h
theorem addrR_size {s : ByteArray} (h : (addrR s).2.2 = true) : s.size ≤ 9 := by
 rcases Classical.em (s.size ≤ 9) with e | e
 exact e
 exfalso
 have z1 := tl3_size s
 have z2 := dl2_size (tl3 s)
 have h1 : (4 : Int) < ((tl3 s).size : Int) := by omega
 have h2 : (4 : Int) < ((dl2 (tl3 s)).size : Int) := by omega
 simp [addrR, h1, h2] at h
theorem addrR_dir (s : ByteArray) : 0 ≤ (addrR s).2.1 ∧ (addrR s).2.1 ≤ 2 := by
 have hd : indexB ⟨#[77, 73, 81]⟩ (byteAt s 1) < 3 := indexByte_lt _ _
 rcases Classical.em (indexB ⟨#[77, 73, 81]⟩ (byteAt s 1) < 0) with e | e
 have : (addrR s).2.1 = 0 := by simp [addrR, e]
 omega
 have key : (addrR s).2.1 = 0 ∨ (addrR s).2.1 = indexB ⟨#[77, 73, 81]⟩ (byteAt s 1) := by
  have ip : ∀ (c : Prop) [Decidable c] (a b d : Int), (a = 0 ∨ a = d) → (b = 0 ∨ b = d) → ((if c then a else b) = 0 ∨ (if c then a else b) = d) := fun c _ a b d ha hb => by
   split
   ·exact ha
   ·exact hb
  simp only [addrR, apply_ite (f := Prod.snd), apply_ite (f := Prod.fst)]
  generalize indexB ⟨#[77, 73, 81]⟩ (byteAt s 1) = d
  repeat' apply ip
  all_goals first | exact .inl rfl | exact .inr rfl
 omega
theorem cellB_ok {x : DCell} {av : List ByteArray} (h : cellB x av = true) : x.init.text.size ≤ 254 ∧ x.addr.size ≤ 9 ∧ 0 ≤ x.dir ∧ x.dir ≤ 2 := by
 refine ⟨?_, ?_⟩
 rcases Classical.em (x.init.text.size ≤ 254) with e | e
 exact e
 exfalso
 have hf : ∀ t : DType, ¬ fitsT t x.init = 0 := fun t q => e (fitsT_size q)
 have he : eqv x.init.kind x.init.bits x.init.text 20 0 ⟨#[]⟩ = false := Bool.eq_false_iff.2 fun q => e (eqv_size q)
 simp [cellB, hf, he] at h
 rcases Classical.em (x.addr = ⟨#[]⟩) with ea | ea
 rcases Classical.em (x.dir = 0) with ed | ed
 rw [ea, ed]; decide
 exfalso
 simp [cellB, ea, ed] at h
 rcases Classical.em ((addrR x.addr).2.2 = true) with er | er
 rcases Classical.em ((addrR x.addr).2.1 = x.dir) with ed | ed
 have := addrR_dir x.addr
 exact ⟨addrR_size er, by omega, by omega⟩
 exfalso
 simp [cellB, ea, ed] at h
 exfalso
 simp [cellB, ea, er] at h
theorem check_ok {m : DImage} (h : checkE m = 0) : nameB m.name = true ∧ m.cells.length ≤ 4096 ∧ m.codes.length ≤ 64 ∧ m.jobs.length ≤ 16 ∧ (∀ i, i < m.cells.length → cellE m i = 0) ∧ codesE m = 0 ∧ ∀ i, i < m.jobs.length → jobE m i = 0 := by
 unfold checkE at h
 split at h
 split at h
 cases h
 split at h
 cases h
 split at h
 cases h
 split at h
 rename_i e1
 split at h
 rename_i e2
 split at h
 rename_i e3
 exact ⟨by assumption, by omega, by omega, by omega, errs_zero e1, e2, errs_zero e3⟩
 exact absurd h (by assumption)
 exact absurd h (by assumption)
 exact absurd h (by assumption)
 cases h
theorem codes_ok {m : DImage} (h : codesE m = 0) : ∀ i, i < m.codes.length → codeE m i = 0 := by
 unfold codesE at h
 split at h
 rename_i e; exact errs_zero e
 exact absurd h (by assumption)
structure OkCode (f : DFlat) : Prop where
 name : f.name.size ≤ 24
 ops : f.ops.length ≤ 16384
 loops : f.loops.length ≤ 16384
 texts : ∀ o ∈ f.ops, o.value.text.size ≤ 254
structure OkCell (x : DCell) : Prop where
 text : x.init.text.size ≤ 254
 addr : x.addr.size ≤ 9
 lo : 0 ≤ x.dir
 hi : x.dir ≤ 2
structure OkJob (j : DJob) : Prop where
 name : j.name.size ≤ 24
 codes : j.codes.length ≤ 32
 bases : j.bases.length ≤ 32
structure OkImg (m : DImage) : Prop where
 name : m.name.size ≤ 24
 ncells : m.cells.length ≤ 4096
 ncodes : m.codes.length ≤ 64
 njobs : m.jobs.length ≤ 16
 cells : ∀ x ∈ m.cells, OkCell x
 codes : ∀ f ∈ m.codes, OkCode f
 jobs : ∀ j ∈ m.jobs, OkJob j
theorem nth_of_mem {α : Type} [Inhabited α] {xs : List α} {x : α} (h : x ∈ xs) : ∃ i, i < xs.length ∧ nth xs (i : Int) = x := by
 obtain ⟨i, hi, rfl⟩ := List.getElem_of_mem h
 exact ⟨i, hi, nth_get xs i hi⟩
theorem tot_ge {m : DImage} {i : Nat} (h : i < m.codes.length) : (nth m.codes (i : Int)).ops.length ≤ totN m (i + 1) := by
 rw [totN_succ h]; omega
theorem codeE_ok {m : DImage} {i : Nat} (hi : i < m.codes.length) (h : codeE m i = 0) : OkCode (nth m.codes (i : Int)) := by
 unfold codeE at h
 have ht := tot_ge hi
 split at h
 rename_i e1
 split at h
 split at h
 cases h
 split at h
 cases h
 split at h
 rename_i e2
 refine ⟨nameB_size e1, by omega, by omega, fun o ho => ?_⟩
 rw [List.all_eq_true] at e2
 have := e2 o ho
 unfold opsB at this
 split at this
 exact mayO_size (by assumption)
 cases this
 cases h
 cases h
 cases h
theorem jobB_ok {m : DImage} {j : DJob} (h : jobB m j = true) : j.codes.length ≤ 32 ∧ j.bases.length ≤ 32 := by
 rcases Classical.em (j.codes.length = j.bases.length) with e | e
 rcases Classical.em (32 < (j.bases.length : Int)) with e2 | e2
 exfalso
 simp [jobB, e, e2] at h
 omega
 exfalso
 simp [jobB, e] at h
theorem okImg {m : DImage} (h : checkE m = 0) : OkImg m := by
 obtain ⟨h1, h2, h3, h4, h5, h6, h7⟩ := check_ok h
 refine ⟨nameB_size h1, h2, h3, h4, fun x hx => ?_, fun f hf => ?_, fun j hj => ?_⟩
 obtain ⟨i, hi, rfl⟩ := nth_of_mem hx
 have := h5 i hi
 unfold cellE at this
 split at this
 rename_i e
 obtain ⟨a, b, c, d⟩ := cellB_ok e
 exact ⟨a, b, c, d⟩
 cases this
 obtain ⟨i, hi, rfl⟩ := nth_of_mem hf
 exact codeE_ok hi (codes_ok h6 i hi)
 obtain ⟨i, hi, rfl⟩ := nth_of_mem hj
 have := h7 i hi
 unfold jobE at this
 split at this
 rename_i e
 split at this
 cases this
 split at this
 obtain ⟨a, b⟩ := jobB_ok (by assumption)
 exact ⟨nameB_size e, a, b⟩
 cases this
 cases this
theorem flatMap_le {α : Type} {f : α → List UInt8} {k : Nat} : ∀ {xs : List α}, (∀ x ∈ xs, (f x).length ≤ k) → (xs.flatMap f).length ≤ xs.length * k
 | [], _ => by simp
 | x :: xs, h => by
  have h1 := h x (by simp)
  have h2 := flatMap_le (xs := xs) (fun y hy => h y (by simp [hy]))
  simp only [List.flatMap_cons, List.length_append, List.length_cons, Nat.succ_mul]
  omega
theorem encNum_len (n : Int) : (encNum n).length = 8 := by simp [encNum]
theorem encText_len (s : ByteArray) : (encText s).length = 8 + s.size := by simp [encText, encNum_len]
theorem encNums_len (ns : List Int) : (encNums ns).length = 8 * ns.length := by
 unfold encNums
 induction ns with
 | nil => rfl
 | cons n ns ih => simp only [List.flatMap_cons, List.length_append, encNum_len, ih, List.length_cons]; omega
theorem encVal_len (v : DVal) : (encVal v).length = 17 + v.text.size := by
 simp only [encVal, List.cons_append, List.length_cons, List.length_append, encNum_len, encText_len]; omega
theorem encCell_len (x : DCell) : (encCell x).length = 53 + x.init.text.size + x.addr.size := by
 simp only [encCell, List.length_append, encVal_len, encNums_len, encText_len, List.length_cons, List.length_nil]; omega
theorem encOp_len (x : DOp) : (encOp x).length = 73 + x.value.text.size := by
 simp only [encOp, List.length_append, encVal_len, encNums_len, List.length_cons, List.length_nil]; omega
theorem encLoop_len (x : DLoop) : (encLoop x).length = 24 := by simp only [encLoop, encNums_len, List.length_cons, List.length_nil]
theorem encJob_len (x : DJob) : (encJob x).length = 56 + x.name.size + 8 * x.codes.length + 8 * x.bases.length := by
 simp only [encJob, List.length_append, encNums_len, encNum_len, encText_len, List.length_cons, List.length_nil]; omega
theorem encFlat_le {x : DFlat} (h : OkCode x) : (encFlat x).length ≤ 2 ^ 25 := by
 have h1 := flatMap_le (f := encOp) (k := 327) (xs := x.ops) (fun o ho => by rw [encOp_len]; have := h.texts o ho; omega)
 have h2 := flatMap_le (f := encLoop) (k := 24) (xs := x.loops) (fun o ho => by rw [encLoop_len]; omega)
 have := h.name; have := h.ops; have := h.loops
 simp only [encFlat, List.length_append, encNums_len, encNum_len, encText_len, List.length_cons, List.length_nil]
 omega
theorem encImage_le {m : DImage} (h : OkImg m) : (encImage m).length ≤ 2 ^ 33 := by
 have h1 := flatMap_le (f := encCell) (k := 400) (xs := m.cells) (fun o ho => by rw [encCell_len]; have := (h.cells o ho).text; have := (h.cells o ho).addr; omega)
 have h2 := flatMap_le (f := encFlat) (k := 2 ^ 25) (xs := m.codes) (fun o ho => encFlat_le (h.codes o ho))
 have h3 := flatMap_le (f := encJob) (k := 1000) (xs := m.jobs) (fun o ho => by rw [encJob_len]; have := (h.jobs o ho).name; have := (h.jobs o ho).codes; have := (h.jobs o ho).bases; omega)
 have := h.name; have := h.ncells; have := h.ncodes; have := h.njobs
 simp only [encImage, List.length_append, encNum_len, encText_len, List.length_cons, List.length_nil]
 omega
def crcB (c : BitVec 32) (k : Nat) : UInt8 := lowByte (c >>> (8 * k))
def le4 (c : BitVec 32) : List UInt8 := (List.range 4).map (crcB c)
theorem le4_eq (c : BitVec 32) : le4 c = [lowByte c, lowByte (c >>> 8), lowByte (c >>> 16), lowByte (c >>> 24)] := by
 simp [le4, crcB]
theorem le4_take (c : BitVec 32) {i : Nat} (h : i < 4) : (le4 c).take (i + 1) = (le4 c).take i ++ [crcB c i] := by
 have : i = 0 ∨ i = 1 ∨ i = 2 ∨ i = 3 := by omega
 rcases this with rfl | rfl | rfl | rfl <;> simp [le4]
theorem le4_length (c : BitVec 32) : (le4 c).length = 4 := by simp [le4]
theorem sh32 (c : BitVec 32) (k : Nat) : byteOf (IntKind.i64.wrap ((c.toNat : Int).fdiv (2 ^ k))) = lowByte (c >>> k) := by
 have hc := c.isLt
 have e : (c.toNat : Int).fdiv (2 ^ k) = ((c.toNat / 2 ^ k : Nat) : Int) := by
  rw [Int.fdiv_eq_ediv_of_nonneg _ (by exact_mod_cast Nat.zero_le _)]; norm_cast
 have hl : c.toNat / 2 ^ k ≤ c.toNat := Nat.div_le_self _ _
 unfold byteOf lowByte
 rw [BitVec.toNat_ushiftRight, Nat.shiftRight_eq_div_pow, e]
 generalize c.toNat / 2 ^ k = q at hl
 rw [wrap_i64 (by omega) (by omega)]
 apply UInt8.toNat_inj.1
 rw [UInt8.toNat_ofNat', UInt8.toNat_ofNat']
 omega
def encFile (m : DImage) : List UInt8 := encImage m ++ le4 (crc (encImage m))
def encE (m : DImage) : Int := if checkE m = 0 then (if 4194304 < (encFile m).length then 4 else 0) else checkE m
def encB (m : DImage) : List UInt8 := if checkE m = 0 then (if 4194304 < (encFile m).length then [] else encFile m) else []
theorem owes_out2 {P : Program} {H : AS} {fn : Func} {p : PV} {y : Value} {F' : AF} {H' : AS} {e : Exit} {lo sz : Nat} {rows : List (List PV)} (he : e = .normal ∨ e = .ret) (hwf : WF H) (hr : aResults P F' H' fn.results.toList = some [p, .val y])
  (hout : OutIs lo H' p sz rows) (hlo : H.next ≤ lo) (hext : H.Ext H') (hb : ∀ r ∈ rows, ∀ p ∈ r, Below H.next p) (hy : Frozen (.val y)) : Owes P fn H (fun r H'' => r = .tuple [PV.sl H.color sz rows, .val y] ∧ H'' = H) e F' H' := by
 obtain ⟨H2, hf, hab⟩ := frz_out hout
 have hv : frzV H' p = (PV.sl H'.color sz rows, H2) := by
  rcases hout with ⟨rfl, rfl⟩ | ⟨id, hid, hlt, rfl, hbox⟩ <;> exact hf
 refine owes_pure he hwf hr ?_ ?_ ?_ <;> simp [frzVs, hv, frzV_one (p := .val y) ⟨by simp, hy⟩, packed]
 exact hab H hlo hext
 exact hb
 rw [hext.color]
theorem Wrote.toExt {id : Nat} {p' : PV} {H H' : AS} (h : Wrote id .nil p' H H') (hid : H.next ≤ id) : H.Ext H' :=
 ⟨h.next, fun j hj => h.box j hj (by omega) (fun n s e => by cases e), h.mp, h.color⟩
theorem outMsl {lo : Nat} {H : AS} {p : PV} {bs : List UInt8} (h : OutIs lo H p 1 (bs.map brow)) (hb : bs ≠ []) : ∃ j, lo ≤ j ∧ p = .msl j bs.length 1 ∧ H.box j = some (bs.map brow) := by
 rcases h with ⟨h, _⟩ | ⟨j, h1, h2, h3, h4⟩
 exact absurd (List.map_eq_nil_iff.1 h) hb
 exact ⟨j, h1, by rw [h3]; simp, h4⟩
theorem encImage_ne (m : DImage) : encImage m ≠ [] := by unfold encImage; simp
theorem encImage_app (m : DImage) (l : List UInt8) : encImage m ++ l ≠ [] := fun h => encImage_ne m (List.append_eq_nil_iff.1 h).1
theorem brow_below (n : Nat) (bs : List UInt8) : ∀ r ∈ bs.map brow, ∀ p ∈ r, Below n p := by simp [brow]
theorem encodeIs (H : AS) (c : Nat) (m : DImage) (hmc : m.cells.length < 2 ^ 62) (hmd : m.codes.length < 2 ^ 62) (hmj : m.jobs.length < 2 ^ 62) (hsz : ∀ f ∈ m.codes, f.ops.length < 2 ^ 62 ∧ f.loops.length < 2 ^ 62) (hsa : ∀ x ∈ m.cells, x.addr.size ≤ 281474976710656) : ACalls Tryz.prog 8 [.agg (m.row c)] H fun q H' => q = .tuple [PV.sl H.color 1 ((encB m).map brow), pi (encE m)] ∧ H' = H := by
 refine ACalls_intro Tryz.func8 rfl (by kernel_rfl) (by simp) fun hwf hbel => ?_
 refine T_sr fun K0 hK0 => ?_
 simp [abox, frame0, abox_image]
 apply hK0
 refine T_seqk fun K1 hK1 => ?_
 refine T_sr fun K2 hK2 => ?_
 simp [aload, partOf, aExtract, frame0, DImage.row]
 refine callK.of (checkIs _ c m hmc hmd hmj hsz hsa) ?_
 rintro _ Hz ⟨⟨ca, cb, rfl⟩, hz⟩
 subst Hz
 simp [aload, partOf, aExtract, frame0, DImage.row]
 apply hK2
 refine T_sr fun K3 hK3 => ?_
 simp [aBin, aBinV, frame0, int_bne]
 apply hK3
 refine T_cond (rfl) (fun c0 => ?_) (fun c0 => ?_)
 refine T_sr fun K4 hK4 => ?_
 simp [frame0]
 apply hK4
 refine T_ret ?_
 try simp only [kr]
 have hne : ¬ checkE m = 0 := by simpa using c0
 exact Owes.mono (fun q H' h => ⟨by rw [h.1]; simp [encB, encE, hne], h.2⟩) (owes_out2 (p := .nil) (rows := []) (lo := H.next) (sz := 1) (y := .int .i64 (checkE m)) (.inr rfl) hwf rfl .nil (Nat.le_refl _) (.bump (.setBox (Nat.le_refl _) (.refl _))) (by simp) (by simp))
 refine T_skip ?_
 try simp only [kn]
 apply hK1
 refine T_sr fun K5 hK5 => ?_
 simp [aBuild, aBuild.go, splice, abox, frame0]
 apply hK5
 refine T_sr fun K6 hK6 => ?_
 have hok : checkE m = 0 := by simpa using c0
 have hsize := encImage_le (okImg hok)
 simp [aload, partOf, frame0, DImage.row]
 refine callK.of (wImage _ (H.next + 1) (H.next + 2) [] .nil m c ⟨by simp, .nil, by simp, by simp⟩ (by simp; omega)) ?_
 rintro _ H3 ⟨rfl, p3, hw3, hwr3'⟩
 have hwr3 : Wrote (H.next + 1) .nil p3 H H3 := hwr3'.ext (.bump (.setBox (by simp) (.bump (.setBox (Nat.le_refl _) (.refl _)))))
 clear hwr3'
 rw [List.nil_append] at hw3
 obtain ⟨j, hj1, rfl, hj3⟩ := outMsl hw3.out (encImage_ne m)
 simp [aload, partOf, frame0, DImage.row]
 apply hK6
 refine T_sr fun K7 hK7 => ?_
 simp [aFieldAddr, aload, partOf, frame0, hw3.box]
 refine callK.of (sumMsl _ (encImage m) (by omega) j hj3) ?_
 rintro _ Hz ⟨rfl, hz⟩
 subst Hz
 simp [aFieldAddr, aload, partOf, frame0, hw3.box]
 apply hK7
 refine T_seqk fun K8 hK8 => ?_
 refine T_sr fun K9 hK9 => ?_
 simp [frame0]
 apply hK9
 refine T_block ?_
 refine T_loop (fun k F H' => ∃ (i : Nat) (p1 : PV), k = 4 - i ∧ i ≤ 4 ∧ F 7 = .ptr (H.next + 1) 1 0 0 ∧ F 8 = v32 (crc (encImage m)) ∧ F 29 = pi i ∧ F 2 = .nil ∧ W H' (H.next + 1) (H.next + 2) (encImage m ++ (le4 (crc (encImage m))).take i) p1 ∧ Wrote (H.next + 1) .nil p1 H H') (4) ?_ ?_
 refine ⟨0, .msl j (encImage m).length 1, ?_⟩
 simp
 exact ⟨hw3, hwr3⟩
 rintro k F H4 ⟨i, p1, rfl, hi, g7, g8, g29, g2, hw1, hwr1⟩
 refine T_sr fun K10 hK10 => ?_
 simp [aBin, aBinV, frame0, g7, g8, g29, g2]
 apply hK10
 refine T_seqk fun K11 hK11 => ?_
 refine T_cond (by first | rfl | exact g7 | exact g8 | exact g29 | exact g2) (fun c1 => ?_) (fun c1 => ?_)
 have hi4 : i < 4 := by simp at c1; omega
 refine T_skip ?_
 try simp only [kn]
 apply hK11
 refine T_seqk fun K12 hK12 => ?_
 refine T_block ?_
 refine T_sr fun K13 hK13 => ?_
 simp [frame0, g7, g8, g29, g2]
 apply hK13
 refine T_rg ?_
 simp [aBin, aBinV, aConvert, frame0, g7, g8, g29, g2, v32, w8 (show i < 8 by omega)]
 refine callK.of (wByte _ (H.next + 1) (H.next + 2) (encImage m ++ (le4 (crc (encImage m))).take i) p1 _ hw1 (by simp [le4_length]; omega)) ?_
 rintro _ H2 ⟨rfl, p2, hw2, hwr2⟩
 simp [aBin, aBinV, aConvert, frame0, g7, g8, g29, g2, v32, w8 (show i < 8 by omega)]
 apply hK12
 refine T_rg ?_
 simp [aBin, aBinV, frame0, g7, g8, g29, g2]
 refine ⟨4 - (i + 1), by omega, i + 1, rfl, by omega, by rw [wrap_i64 (by omega) (by omega)]; rfl, p2, ?_, hwr1.trans hwr2⟩
 rw [le4_take _ hi4, ← List.append_assoc]
 rw [show min (8 * (i : Int)).toNat IntKind.u32.bits = 8 * i by simp [IntKind.bits]; omega, sh32] at hw2
 exact hw2
 have hge : i = 4 := by simp at c1; omega
 refine T_exit ?_
 try simp only [ke, kn, if_true, if_false, Nat.reduceEqDiff, reduceIte]
 apply hK8
 refine T_seqk fun K14 hK14 => ?_
 refine T_sr fun K15 hK15 => ?_
 have hall : (le4 (crc (encImage m))).take i = le4 (crc (encImage m)) := List.take_of_length_le (by rw [le4_length]; omega)
 rw [hall] at hw1
 obtain ⟨j2, hj4, rfl, hj6⟩ := outMsl hw1.out (encImage_app m _)
 simp [aFieldAddr, aload, partOf, aLen, aBin, aBinV, frame0, g7, g8, g29, g2, hw1.box, lenOf]
 apply hK15
 refine T_cond (by first | rfl | exact g7 | exact g8 | exact g29 | exact g2) (fun c2 => ?_) (fun c2 => ?_)
 refine T_sr fun K16 hK16 => ?_
 simp [frame0, g7, g8, g29, g2]
 apply hK16
 refine T_ret ?_
 try simp only [kr]
 have hlong : 4194304 < (encFile m).length := by
  have := of_decide_eq_true c2
  unfold encFile; rw [List.length_append]; omega
 exact Owes.mono (fun q H' h => ⟨by rw [h.1]; simp [encB, encE, hok, hlong], h.2⟩) (owes_out2 (p := .nil) (rows := []) (lo := H.next) (sz := 1) (y := .int .i64 4) (.inr rfl) hwf rfl .nil (Nat.le_refl _) (hwr1.toExt (by omega)) (by simp) (by simp))
 refine T_skip ?_
 try simp only [kn]
 apply hK14
 refine T_sr fun K17 hK17 => ?_
 simp [aFieldAddr, aload, partOf, frame0, g7, g8, g29, g2, hw1.box]
 apply hK17
 refine T_ret ?_
 try simp only [kr]
 have hshort : ¬ 4194304 < (encFile m).length := by
  have := of_decide_eq_false c2
  unfold encFile; rw [List.length_append]; omega
 have hout := hw1.out
 have hex := hwr1.toExt (by omega)
 simp only [List.length_append] at hout
 exact Owes.mono (fun q H' h => ⟨by rw [h.1, encB, encE, if_pos hok, if_neg hshort, if_pos hok, if_neg hshort, encFile], h.2⟩) (owes_out2 (y := .int .i64 0) (.inr rfl) hwf rfl hout (by omega) hex (brow_below _ _) (by simp))
def Has (bs : List UInt8) (n : Nat) (l : List UInt8) : Prop := n + l.length ≤ bs.length ∧ (bs.drop n).take l.length = l
theorem Has.app {bs : List UInt8} {n : Nat} {a b : List UInt8} : Has bs n (a ++ b) ↔ Has bs n a ∧ Has bs (n + a.length) b := by
 unfold Has
 rw [List.length_append]
 have key : (bs.drop n).take (a.length + b.length) = (bs.drop n).take a.length ++ (bs.drop (n + a.length)).take b.length := by
  rw [List.take_add, List.drop_drop]
 rw [key]
 constructor
 rintro ⟨h1, h2⟩
 have hl : ((bs.drop n).take a.length).length = a.length := by simp; omega
 obtain ⟨e1, e2⟩ := List.append_inj h2 hl
 exact ⟨⟨by omega, e1⟩, by omega, e2⟩
 rintro ⟨⟨h1, h2⟩, h3, h4⟩
 exact ⟨by omega, by rw [h2, h4]⟩
theorem Has.nil {bs : List UInt8} {n : Nat} (h : n ≤ bs.length) : Has bs n [] := ⟨by simpa using h, by simp⟩
theorem Has.whole {bs : List UInt8} : Has bs 0 bs := ⟨by simp, by simp⟩
theorem rdTake_stick {bs : List UInt8} {n : Nat} {s : RS} (h : s.e ≠ 0) : (rdTake bs n s).2 = s := by unfold rdTake; rw [if_neg h]
theorem rdTake_ok {bs : List UInt8} {n : Nat} {s : RS} (h : s.e = 0) (he : (rdTake bs n s).2.e = 0) : s.at' + n ≤ bs.length ∧ rdTake bs n s = ((bs.drop s.at').take n, { s with at' := s.at' + n }) := by
 unfold rdTake at he ⊢
 rw [if_pos h] at he ⊢
 by_cases hl : bs.length < s.at' + n
 rw [if_pos hl] at he; simp at he
 rw [if_neg hl]; exact ⟨by omega, rfl⟩
theorem rdTake_full {bs : List UInt8} {n : Nat} {s : RS} {l : List UInt8} (h : s.e = 0) (hn : l.length = n) (hb : Has bs s.at' l) : rdTake bs n s = (l, { s with at' := s.at' + n }) := by
 subst hn
 unfold rdTake
 have := hb.1
 rw [if_pos h, if_neg (by omega), hb.2]
structure Law {α : Type} (rd : List UInt8 → RS → α × RS) (enc : α → List UInt8) (ok : α → Prop) : Prop where
 stick : ∀ bs s, s.e ≠ 0 → (rd bs s).2.e ≠ 0
 sound : ∀ bs s, s.e = 0 → s.at' ≤ bs.length → (rd bs s).2.e = 0 → ok (rd bs s).1 ∧ Has bs s.at' (enc (rd bs s).1) ∧ (rd bs s).2 = { s with at' := s.at' + (enc (rd bs s).1).length }
 full : ∀ bs s x, s.e = 0 → ok x → Has bs s.at' (enc x) → rd bs s = (x, { s with at' := s.at' + (enc x).length })
def rdPair {α β : Type} (rd1 : List UInt8 → RS → α × RS) (rd2 : List UInt8 → RS → β × RS) (bs : List UInt8) (s : RS) : (α × β) × RS :=
 (((rd1 bs s).1, (rd2 bs (rd1 bs s).2).1), (rd2 bs (rd1 bs s).2).2)
theorem Law.pair {α β : Type} {rd1 : List UInt8 → RS → α × RS} {rd2 : List UInt8 → RS → β × RS} {enc1 : α → List UInt8} {enc2 : β → List UInt8} {ok1 : α → Prop} {ok2 : β → Prop} (h1 : Law rd1 enc1 ok1) (h2 : Law rd2 enc2 ok2) :
  Law (rdPair rd1 rd2) (fun x => enc1 x.1 ++ enc2 x.2) (fun x => ok1 x.1 ∧ ok2 x.2) := by
 refine ⟨fun bs s h => h2.stick _ _ (h1.stick _ _ h), fun bs s h hle he => ?_, fun bs s x h hx hb => ?_⟩
 have e1 : (rd1 bs s).2.e = 0 := by
  by_cases e : (rd1 bs s).2.e = 0
  ·exact e
  ·exact absurd he (h2.stick _ _ e)
 obtain ⟨o1, b1, s1⟩ := h1.sound bs s h hle e1
 obtain ⟨o2, b2, s2⟩ := h2.sound bs (rd1 bs s).2 e1 (by rw [s1]; exact b1.1) he
 have hat : (rd1 bs s).2.at' = s.at' + (enc1 (rd1 bs s).1).length := by rw [s1]
 refine ⟨⟨o1, o2⟩, Has.app.2 ⟨b1, ?_⟩, ?_⟩
 show Has bs (s.at' + (enc1 (rd1 bs s).1).length) _; rw [← hat]; exact b2
 show (rd2 bs (rd1 bs s).2).2 = _
 rw [s2, hat]
 simp only [rdPair, List.length_append]
 rw [s1]
 simp only [Nat.add_assoc]
 obtain ⟨b1, b2⟩ := Has.app.1 hb
 have r1 := h1.full bs s x.1 h hx.1 b1
 have r2 := h2.full bs { s with at' := s.at' + (enc1 x.1).length } x.2 h hx.2 b2
 unfold rdPair
 rw [r1]
 dsimp only
 rw [r2]
 simp only [List.length_append, Nat.add_assoc]
theorem Law.map {α β : Type} {rd : List UInt8 → RS → α × RS} {rd' : List UInt8 → RS → β × RS} {enc : α → List UInt8} {enc' : β → List UInt8} {ok : α → Prop} {ok' : β → Prop} (h : Law rd enc ok) (f : α → β) (g : β → α)
  (hrd : ∀ bs s, rd' bs s = (f (rd bs s).1, (rd bs s).2)) (henc : ∀ x, ok x → enc' (f x) = enc x) (hok : ∀ x, ok x → ok' (f x)) (hok' : ∀ y, ok' y → ok (g y)) (hfg : ∀ y, ok' y → f (g y) = y) : Law rd' enc' ok' := by
 refine ⟨fun bs s e => ?_, fun bs s e hle he => ?_, fun bs s y e hy hb => ?_⟩
 rw [hrd]; exact h.stick bs s e
 rw [hrd] at he ⊢
 obtain ⟨o, b, st⟩ := h.sound bs s e hle he
 refine ⟨hok _ o, ?_, ?_⟩
 rw [henc _ o]; exact b
 rw [henc _ o]; exact st
 rw [← hfg y hy, henc _ (hok' y hy)] at hb
 have := h.full bs s (g y) e (hok' y hy) hb
 rw [hrd, this]
 simp only
 rw [← henc _ (hok' y hy), hfg y hy]
def ok64 (n : Int) : Prop := -9223372036854775808 ≤ n ∧ n < 9223372036854775808
def ok8 (n : Int) : Prop := 0 ≤ n ∧ n < 256
def okU64 (n : Int) : Prop := 0 ≤ n ∧ n < 18446744073709551616
def okText (s : ByteArray) : Prop := s.size < 2 ^ 63
theorem byteOf_ofNat (b : UInt8) : byteOf ((b.toNat : Nat) : Int) = b := by
 apply UInt8.toNat_inj.1
 have h := byteOf_toNat ((b.toNat : Nat) : Int)
 have := b.toNat_lt
 omega
theorem law_byte : Law rdByte (fun n => [byteOf n]) ok8 := by
 refine ⟨fun bs s h => ?_, fun bs s h hle he => ?_, fun bs s x h hx hb => ?_⟩
 show (rdTake bs 1 s).2.e ≠ 0; rw [rdTake_stick h]; exact h
 obtain ⟨hl, ht⟩ := rdTake_ok (n := 1) h he
 obtain ⟨b, hb⟩ : ∃ b, (bs.drop s.at').take 1 = [b] := List.length_eq_one_iff.1 (by simp; omega)
 have e1 : (rdByte bs s).1 = ((b.toNat : Nat) : Int) := by unfold rdByte; rw [ht, hb]; rfl
 have e2 : (rdByte bs s).2 = { s with at' := s.at' + 1 } := by unfold rdByte; rw [ht]
 rw [e1, e2]
 have := b.toNat_lt
 refine ⟨⟨by omega, by omega⟩, ⟨by simp; omega, ?_⟩, ?_⟩
 rw [byteOf_ofNat]; simpa using hb
 simp
 have ht := rdTake_full (n := 1) h (by simp) hb
 unfold rdByte
 rw [ht]
 have := byteOf_toNat x
 have h1 := hx.1
 have h2 := hx.2
 simp
 omega
def natTo (l : List UInt8) : Nat → Nat
 | 0 => 0
 | i + 1 => natTo l i + ((l[i]?).getD 0).toNat * 2 ^ (8 * i)
theorem natTo_lt (l : List UInt8) : ∀ i, natTo l i < 2 ^ (8 * i)
 | 0 => by simp [natTo]
 | i + 1 => by
  have h := natTo_lt l i
  have hb := ((l[i]?).getD 0).toNat_lt
  have e : 2 ^ (8 * (i + 1)) = 256 * 2 ^ (8 * i) := by rw [show 8 * (i + 1) = 8 * i + 8 by omega, Nat.pow_add]; omega
  have h2 : ((l[i]?).getD 0).toNat * 2 ^ (8 * i) ≤ 255 * 2 ^ (8 * i) := Nat.mul_le_mul_right _ (by omega)
  unfold natTo
  omega
theorem numTo_nat (l : List UInt8) : ∀ i, i ≤ 8 → (numTo l i).toNat = natTo l i
 | 0, _ => rfl
 | i + 1, h => by
  have ih := numTo_nat l i (by omega)
  have hlt := natTo_lt l i
  have hb := ((l[i]?).getD 0).toNat_lt
  unfold numTo natTo
  rw [BitVec.toNat_or, BitVec.toNat_shiftLeft, ih, BitVec.toNat_ofNat]
  have e1 : ((l[i]?).getD 0).toNat % 2 ^ 64 = ((l[i]?).getD 0).toNat := Nat.mod_eq_of_lt (by omega)
  have hle : 2 ^ (8 * i) ≤ 2 ^ 56 := Nat.pow_le_pow_right (by decide) (by omega)
  have h2 : ((l[i]?).getD 0).toNat * 2 ^ (8 * i) ≤ 255 * 2 ^ 56 := Nat.mul_le_mul (by omega) hle
  rw [e1, Nat.shiftLeft_eq, Nat.mod_eq_of_lt (Nat.lt_of_le_of_lt h2 (by decide)), ← Nat.shiftLeft_eq, Nat.or_comm, ← Nat.shiftLeft_add_eq_or_of_lt hlt, Nat.shiftLeft_eq]
  omega
theorem encNum_eq (n : Int) : encNum n = [byteOf n, byteOf (n / 256), byteOf (n / 65536), byteOf (n / 16777216), byteOf (n / 4294967296), byteOf (n / 1099511627776), byteOf (n / 281474976710656), byteOf (n / 72057594037927936)] := by
 unfold encNum
 simp only [show List.range 8 = [0, 1, 2, 3, 4, 5, 6, 7] from rfl, List.map_cons, List.map_nil]
 simp only [Int.fdiv_eq_ediv_of_nonneg n (show (0 : Int) ≤ 2 ^ (8 * 0) by decide), Int.fdiv_eq_ediv_of_nonneg n (show (0 : Int) ≤ 2 ^ (8 * 1) by decide), Int.fdiv_eq_ediv_of_nonneg n (show (0 : Int) ≤ 2 ^ (8 * 2) by decide), Int.fdiv_eq_ediv_of_nonneg n (show (0 : Int) ≤ 2 ^ (8 * 3) by decide), Int.fdiv_eq_ediv_of_nonneg n (show (0 : Int) ≤ 2 ^ (8 * 4) by decide), Int.fdiv_eq_ediv_of_nonneg n (show (0 : Int) ≤ 2 ^ (8 * 5) by decide), Int.fdiv_eq_ediv_of_nonneg n (show (0 : Int) ≤ 2 ^ (8 * 6) by decide), Int.fdiv_eq_ediv_of_nonneg n (show (0 : Int) ≤ 2 ^ (8 * 7) by decide)]
 simp
theorem natTo8 (a b c d e f g h : UInt8) : natTo [a, b, c, d, e, f, g, h] 8 = a.toNat + b.toNat * 256 + c.toNat * 65536 + d.toNat * 16777216 + e.toNat * 4294967296 + f.toNat * 1099511627776 + g.toNat * 281474976710656 + h.toNat * 72057594037927936 := by
 simp [natTo]
theorem byteOf_eq {n : Int} {b : UInt8} (h : n % 256 = (b.toNat : Int)) : byteOf n = b := by
 apply UInt8.toNat_inj.1
 have := byteOf_toNat n
 omega
theorem encNum_numTo {l : List UInt8} (h : l.length = 8) : encNum (numTo l 8).toInt = l := by
 match l, h with
 | [a, b, c, d, e, f, g, h], _ =>
  have hn := numTo_nat [a, b, c, d, e, f, g, h] 8 (by omega)
  rw [natTo8] at hn
  have ha := a.toNat_lt
  have hb := b.toNat_lt
  have hc := c.toNat_lt
  have hd := d.toNat_lt
  have he := e.toNat_lt
  have hf := f.toNat_lt
  have hg := g.toNat_lt
  have hh := h.toNat_lt
  rw [encNum_eq, BitVec.toInt_eq_toNat_cond]
  generalize (numTo [a, b, c, d, e, f, g, h] 8).toNat = n at hn
  generalize hx : (if 2 * n < 2 ^ 64 then (n : Int) else (n : Int) - ((2 ^ 64 : Nat) : Int)) = x
  have hx' : x = n ∨ x = (n : Int) - 18446744073709551616 := by
   rw [← hx]; split
   ·exact .inl rfl
   ·exact .inr rfl
  clear hx
  have q1 : (x / 256) / 256 = x / 65536 := by omega
  rw [byteOf_eq (b := a) (by omega), byteOf_eq (b := b) (by omega), byteOf_eq (b := c) (by omega), byteOf_eq (b := d) (by omega), byteOf_eq (b := e) (by omega), byteOf_eq (b := f) (by omega), byteOf_eq (b := g) (by omega), byteOf_eq (b := h) (by omega)]
theorem numTo_encNum {n : Int} (h : ok64 n) : (numTo (encNum n) 8).toInt = n := by
 have hn := numTo_nat (encNum n) 8 (by omega)
 rw [BitVec.toInt_eq_toNat_cond, hn, encNum_eq, natTo8]
 have h0 := byteOf_toNat n
 have h1 := byteOf_toNat (n / 256)
 have h2 := byteOf_toNat (n / 65536)
 have h3 := byteOf_toNat (n / 16777216)
 have h4 := byteOf_toNat (n / 4294967296)
 have h5 := byteOf_toNat (n / 1099511627776)
 have h6 := byteOf_toNat (n / 281474976710656)
 have h7 := byteOf_toNat (n / 72057594037927936)
 generalize (byteOf n).toNat = b0 at *
 generalize (byteOf (n / 256)).toNat = b1 at *
 generalize (byteOf (n / 65536)).toNat = b2 at *
 generalize (byteOf (n / 16777216)).toNat = b3 at *
 generalize (byteOf (n / 4294967296)).toNat = b4 at *
 generalize (byteOf (n / 1099511627776)).toNat = b5 at *
 generalize (byteOf (n / 281474976710656)).toNat = b6 at *
 generalize (byteOf (n / 72057594037927936)).toNat = b7 at *
 have q1 : n / 65536 = (n / 256) / 256 := by omega
 have q2 : n / 16777216 = (n / 65536) / 256 := by omega
 have q3 : n / 4294967296 = (n / 16777216) / 256 := by omega
 have q4 : n / 1099511627776 = (n / 4294967296) / 256 := by omega
 have q5 : n / 281474976710656 = (n / 1099511627776) / 256 := by omega
 have q6 : n / 72057594037927936 = (n / 281474976710656) / 256 := by omega
 have hlo := h.1
 have hhi := h.2
 generalize n / 72057594037927936 = d7 at *
 generalize n / 281474976710656 = d6 at *
 generalize n / 1099511627776 = d5 at *
 generalize n / 4294967296 = d4 at *
 generalize n / 16777216 = d3 at *
 generalize n / 65536 = d2 at *
 generalize hd1 : n / 256 = d1 at *
 have key : n = b0 + b1 * 256 + b2 * 65536 + b3 * 16777216 + b4 * 4294967296 + b5 * 1099511627776 + b6 * 281474976710656 + d7 * 72057594037927936 := by omega
 split <;> omega
theorem law_num : Law rdNum encNum ok64 := by
 refine ⟨fun bs s h => ?_, fun bs s h hle he => ?_, fun bs s x h hx hb => ?_⟩
 show (rdTake bs 8 s).2.e ≠ 0; rw [rdTake_stick h]; exact h
 obtain ⟨hl, ht⟩ := rdTake_ok (n := 8) h he
 have hlen : ((bs.drop s.at').take 8).length = 8 := by simp; omega
 have e1 : (rdNum bs s).1 = (numTo ((bs.drop s.at').take 8) 8).toInt := by unfold rdNum; rw [ht]
 have e2 : (rdNum bs s).2 = { s with at' := s.at' + 8 } := by unfold rdNum; rw [ht]
 rw [e1, e2, encNum_numTo hlen]
 refine ⟨?_, ⟨by rw [hlen]; exact hl, by rw [hlen]⟩, by rw [hlen]⟩
 unfold ok64
 have h1 := BitVec.le_toInt (numTo ((bs.drop s.at').take 8) 8)
 have h2 := BitVec.toInt_lt (x := numTo ((bs.drop s.at').take 8) 8)
 simp at h1 h2
 exact ⟨h1, h2⟩
 have ht := rdTake_full (n := 8) h (encNum_length x) hb
 unfold rdNum
 rw [ht, encNum_length]
 dsimp only
 rw [numTo_encNum hx]
theorem rdMany_stick {bs : List UInt8} {s : RS} (h : s.e ≠ 0) : (rdMany bs s).2.e ≠ 0 := by
 have h1 : (rdNum bs s).2 = s := rdTake_stick h
 have h2 : (rdManyA bs s).e ≠ 0 := by
  unfold rdManyA rdRefuse; rw [h1]; split
  ·exact h
  ·exact h
 show (rdManyB bs s).e ≠ 0
 unfold rdManyB
 rw [if_neg (fun h => h2 h.1)]; exact h2
theorem rdMany_ok {bs : List UInt8} {s : RS} (h : s.e = 0) (hle : s.at' ≤ bs.length) (he : (rdMany bs s).2.e = 0) : Has bs s.at' (encNum ((rdMany bs s).1 : Int)) ∧ (rdMany bs s).2 = { s with at' := s.at' + 8 } ∧ s.at' + 8 + (rdMany bs s).1 ≤ bs.length ∧ ok64 ((rdMany bs s).1 : Int) := by
 have he' : (rdManyB bs s).e = 0 := he
 have hnn := rdMany_nonneg he'
 have ref : ∀ (a e : Int) (s : RS), e ≠ 0 → (rdRefuse a e s).e ≠ 0 := fun a e s h => by unfold rdRefuse; split <;> simp_all
 have hA : rdManyB bs s = rdManyA bs s := by
  unfold rdManyB at he' ⊢
  split at he'
  ·exact absurd he' (ref _ _ _ (by decide))
  ·rename_i h; rw [if_neg h]
 have hN : rdManyA bs s = (rdNum bs s).2 := by unfold rdManyA; rw [if_neg (by omega)]
 have heN : (rdNum bs s).2.e = 0 := by rw [← hN, ← hA]; exact he'
 obtain ⟨o, b, st⟩ := law_num.sound bs s h hle heN
 have e1 : (((rdMany bs s).1 : Nat) : Int) = (rdNum bs s).1 := by
  unfold rdMany; rw [if_pos he']; dsimp only; omega
 have e2 : (rdMany bs s).2 = { s with at' := s.at' + 8 } := by
  show rdManyB bs s = _
  rw [hA, hN, st, encNum_length]
 rw [e1]
 refine ⟨b, e2, ?_, o⟩
 have hb := b.1
 rw [encNum_length] at hb
 have : (rdManyB bs s).at' = s.at' + 8 := by rw [hA, hN, st, encNum_length]
 rw [this] at hnn
 omega
theorem rdMany_full {bs : List UInt8} {s : RS} {n : Nat} (h : s.e = 0) (hn : n < 2 ^ 63) (hb : Has bs s.at' (encNum (n : Int))) (hl : s.at' + 8 + n ≤ bs.length) : rdMany bs s = (n, { s with at' := s.at' + 8 }) := by
 have hr := law_num.full bs s (n : Int) h ⟨by omega, by omega⟩ hb
 rw [encNum_length] at hr
 have hA : rdManyA bs s = { s with at' := s.at' + 8 } := by unfold rdManyA; rw [hr]; dsimp only; rw [if_neg (by omega)]
 have hB : rdManyB bs s = { s with at' := s.at' + 8 } := by
  unfold rdManyB; rw [hA, hr]; dsimp only; rw [if_neg (by omega)]
 unfold rdMany
 rw [hB, hr]
 dsimp only
 rw [if_pos h]
 simp
theorem encText_len' (s : ByteArray) : (encText s).length = 8 + s.size := by
 unfold encText; rw [List.length_append, encNum_length]; simp
theorem law_text : Law rdText encText okText := by
 refine ⟨fun bs s h => ?_, fun bs s h hle he => ?_, fun bs s x h hx hb => ?_⟩
 show (rdTake bs _ (rdMany bs s).2).2.e ≠ 0; rw [rdTake_stick (rdMany_stick h)]; exact rdMany_stick h
 have hm : (rdMany bs s).2.e = 0 := by
  by_cases e : (rdMany bs s).2.e = 0
  ·exact e
  ·have : (rdText bs s).2 = (rdMany bs s).2 := rdTake_stick e
   rw [this] at he; exact absurd he e
 obtain ⟨b1, s1, l1, o1⟩ := rdMany_ok h hle hm
 obtain ⟨hl, ht⟩ := rdTake_ok (n := (rdMany bs s).1) hm he
 have hat : (rdMany bs s).2.at' = s.at' + 8 := by rw [s1]
 rw [hat] at hl
 have hlen : ((bs.drop (s.at' + 8)).take (rdMany bs s).1).length = (rdMany bs s).1 := by simp; omega
 have e1 : (rdText bs s).1 = ⟨((bs.drop (s.at' + 8)).take (rdMany bs s).1).toArray⟩ := by unfold rdText; rw [ht, hat]
 have e2 : (rdText bs s).2 = { s with at' := s.at' + 8 + (rdMany bs s).1 } := by unfold rdText; rw [ht, s1]
 have hsz : (rdText bs s).1.size = (rdMany bs s).1 := by rw [e1]; exact hlen
 have henc : encText (rdText bs s).1 = encNum ((rdMany bs s).1 : Int) ++ (bs.drop (s.at' + 8)).take (rdMany bs s).1 := by
  unfold encText; rw [hsz, e1]
 refine ⟨?_, ?_, ?_⟩
 unfold okText; rw [hsz]; unfold ok64 at o1; omega
 rw [henc, Has.app]
 refine ⟨b1, ?_, ?_⟩
 rw [encNum_length, hlen]; exact hl
 rw [encNum_length, hlen]
 rw [encText_len', hsz, e2]; simp only [Nat.add_assoc]
 unfold encText at hb
 obtain ⟨b1, b2⟩ := Has.app.1 hb
 have hsz : x.data.toList.length = x.size := by simp
 have hl := b2.1
 rw [encNum_length, hsz] at hl
 have hm := rdMany_full h hx b1 (by omega)
 rw [encNum_length] at b2
 have ht := rdTake_full (bs := bs) (n := x.size) (s := { s with at' := s.at' + 8 }) h hsz b2
 unfold rdText
 rw [hm]
 dsimp only
 rw [ht, encText_len']
 simp only [Nat.add_assoc]
theorem law_truth : Law rdTruth (fun b => [bit b]) (fun _ => True) := by
 refine ⟨fun bs s h => ?_, fun bs s h hle he => ?_, fun bs s x h hx hb => ?_⟩
 have h1 : (rdByte bs s).2 = s := rdTake_stick h
 unfold rdTruth rdRefuse; dsimp only; rw [h1]; split
 exact h
 exact h
 have hr : ¬ (rdByte bs s).1 > 1 ∧ (rdTruth bs s).2 = (rdByte bs s).2 := by
  unfold rdTruth at he ⊢
  dsimp only at he ⊢
  split at he
  ·unfold rdRefuse at he; split at he <;> simp_all
  ·rename_i hh; rw [if_neg hh]; exact ⟨hh, rfl⟩
 obtain ⟨o, b, st⟩ := law_byte.sound bs s h hle (by rw [← hr.2]; exact he)
 have hbit : [bit (rdTruth bs s).1] = [byteOf (rdByte bs s).1] := by
  unfold rdTruth bit; dsimp only
  have h0 := o.1
  have : (rdByte bs s).1 = 0 ∨ (rdByte bs s).1 = 1 := by omega
  rcases this with e | e <;> rw [e] <;> simp
 refine ⟨trivial, ?_, ?_⟩
 rw [hbit]; exact b
 rw [hr.2, hbit]; exact st
 have hr := law_byte.full bs s (if x then 1 else 0) h (by cases x <;> exact ⟨by decide, by decide⟩) hb
 unfold rdTruth
 rw [hr]
 cases x <;> simp
theorem law_list {α : Type} {rd : List UInt8 → RS → α × RS} {enc : α → List UInt8} {ok : α → Prop} (h : Law rd enc ok) (hpos : ∀ x, 1 ≤ (enc x).length) :
  Law (fun bs s => rdList bs rd s) (fun l => encNum l.length ++ l.flatMap enc) (fun l => l.length < 2 ^ 63 ∧ ∀ x ∈ l, ok x) := by
 have go_sound : ∀ (n : Nat) (bs : List UInt8) (acc : List α) (s : RS), s.e = 0 → s.at' ≤ bs.length → (rdGo (rd bs) n acc s).2.e = 0 → ∃ l, (rdGo (rd bs) n acc s).1 = acc ++ l ∧ l.length = n ∧ (∀ x ∈ l, ok x) ∧ Has bs s.at' (l.flatMap enc) ∧ (rdGo (rd bs) n acc s).2 = { s with at' := s.at' + (l.flatMap enc).length } := by
  intro n
  induction n with
  | zero => intro bs acc s _ hle _; exact ⟨[], by simp [rdGo], rfl, by simp, Has.nil hle, by simp [rdGo]⟩
  | succ n ih =>
   intro bs acc s hs hle he
   unfold rdGo at he ⊢
   by_cases e : (rd bs s).2.e = 0
   ·rw [if_pos e] at he ⊢
    obtain ⟨o, b, st⟩ := h.sound bs s hs hle e
    have hat : (rd bs s).2.at' = s.at' + (enc (rd bs s).1).length := by rw [st]
    obtain ⟨l, l1, l2, l3, l4, l5⟩ := ih bs (acc ++ [(rd bs s).1]) (rd bs s).2 e (by rw [hat]; exact b.1) he
    refine ⟨(rd bs s).1 :: l, ?_, by simp [l2], ?_, ?_, ?_⟩
    ·rw [l1]; simp
    ·intro x hx; rcases List.mem_cons.1 hx with rfl | hx
     ·exact o
     ·exact l3 x hx
    ·rw [List.flatMap_cons, Has.app]; exact ⟨b, by rw [← hat]; exact l4⟩
    ·rw [l5, hat, List.flatMap_cons, List.length_append, ← Nat.add_assoc]
     rw [st]
   ·rw [if_neg e] at he; exact absurd he e
 have go_full : ∀ (l : List α) (bs : List UInt8) (acc : List α) (s : RS), s.e = 0 → (∀ x ∈ l, ok x) → Has bs s.at' (l.flatMap enc) → rdGo (rd bs) l.length acc s = (acc ++ l, { s with at' := s.at' + (l.flatMap enc).length }) := by
  intro l
  induction l with
  | nil => intro bs acc s _ _ _; simp [rdGo]
  | cons x l ih =>
   intro bs acc s hs ho hb
   rw [List.flatMap_cons, Has.app] at hb
   have hr := h.full bs s x hs (ho x (by simp)) hb.1
   rw [List.length_cons]
   unfold rdGo
   rw [hr]
   dsimp only
   rw [if_pos hs, ih bs (acc ++ [x]) { s with at' := s.at' + (enc x).length } hs (fun y hy => ho y (by simp [hy])) hb.2]
   rw [List.flatMap_cons, List.length_append]
   simp [Nat.add_assoc]
 have go_stick : ∀ (n : Nat) (bs : List UInt8) (acc : List α) (s : RS), s.e ≠ 0 → (rdGo (rd bs) n acc s).2.e ≠ 0 := by
  intro n bs acc s hs
  cases n with
  | zero => exact hs
  | succ n => unfold rdGo; rw [if_neg (h.stick bs s hs)]; exact h.stick bs s hs
 refine ⟨fun bs s hs => go_stick _ _ _ _ (rdMany_stick hs), fun bs s hs hle he => ?_, fun bs s l hs hl hb => ?_⟩
 have hm : (rdMany bs s).2.e = 0 := by
  by_cases e : (rdMany bs s).2.e = 0
  ·exact e
  ·exact absurd he (go_stick _ _ _ _ e)
 obtain ⟨b1, s1, l1, o1⟩ := rdMany_ok hs hle hm
 have hat : (rdMany bs s).2.at' = s.at' + 8 := by rw [s1]
 obtain ⟨l, g1, g2, g3, g4, g5⟩ := go_sound (rdMany bs s).1 bs [] (rdMany bs s).2 hm (by rw [hat]; omega) he
 have e1 : (rdList bs rd s).1 = l := by unfold rdList; rw [g1]; rfl
 have e2 : (rdList bs rd s).2 = { s with at' := s.at' + 8 + (l.flatMap enc).length } := by unfold rdList; rw [g5, s1]
 rw [e1, e2, g2]
 refine ⟨⟨by unfold ok64 at o1; omega, g3⟩, ?_, ?_⟩
 rw [Has.app, encNum_length]
 exact ⟨b1, by rw [← hat]; exact g4⟩
 rw [List.length_append, encNum_length, ← Nat.add_assoc]
 obtain ⟨b1, b2⟩ := Has.app.1 hb
 have hlen : l.length ≤ (l.flatMap enc).length := flat_ge hpos
 have hle := b2.1
 rw [encNum_length] at hle b2
 have hm := rdMany_full hs hl.1 b1 (by omega)
 unfold rdList
 rw [hm]
 dsimp only
 rw [go_full l bs [] { s with at' := s.at' + 8 } hs hl.2 b2]
 rw [List.length_append, encNum_length]
 simp [Nat.add_assoc]
theorem law_none {α : Type} (a : α) : Law (fun bs s => (a, s)) (fun _ => []) (fun x => x = a) :=
 ⟨fun bs s h => h, fun bs s h hle he => ⟨rfl, Has.nil hle, rfl⟩, fun bs s x h hx hb => by rw [hx]; rfl⟩
theorem law_nums (n : Nat) : Law (fun bs s => rdNums bs n s) encNums (fun l => l.length = n ∧ ∀ x ∈ l, ok64 x) := by
 induction n with
 | zero =>
  exact (law_none ([] : List Int)).map id id (fun bs s => rfl) (fun x h => by rw [h]; rfl) (fun x h => by rw [h]; simp) (fun y h => List.length_eq_zero_iff.1 h.1) (fun y h => rfl)
 | succ n ih =>
  refine (ih.pair law_num).map (fun p => p.1 ++ [p.2]) (fun l => (l.take n, (l[n]?).getD 0)) (fun bs s => rfl) (fun x h => ?_) (fun x h => ⟨by simp [h.1.1], fun y hy => ?_⟩) (fun y h => ?_) (fun y h => ?_)
  ·simp [encNums]
  ·rcases List.mem_append.1 hy with hy | hy
   ·exact h.1.2 y hy
   ·rw [List.mem_singleton] at hy; subst hy; exact h.2
  ·have hn : n < y.length := by omega
   refine ⟨⟨by simp; omega, fun x hx => h.2 x (List.mem_of_mem_take hx)⟩, ?_⟩
   dsimp only
   rw [List.getElem?_eq_getElem hn]
   exact h.2 _ (List.getElem_mem hn)
  ·have hn : n < y.length := by omega
   dsimp only
   rw [List.getElem?_eq_getElem hn, Option.getD_some, ← List.take_succ_eq_append_getElem hn, List.take_of_length_le (by omega)]
def topInv : List Nat := [0, 65, 195, 130, 134, 199, 69, 4, 77, 12, 142, 207, 203, 138, 8, 73, 154, 219, 89, 24, 28, 93, 223, 158, 215, 150, 20, 85, 81, 16, 146, 211, 117, 52, 182, 247, 243, 178, 48, 113, 56, 121, 251, 186, 190, 255, 125, 60, 239, 174, 44, 109, 105, 40, 170, 235, 162, 227, 97, 32, 36, 101, 231, 166, 234, 171, 41, 104, 108, 45, 175, 238, 167, 230, 100, 37, 33, 96, 226, 163, 112, 49, 179, 242, 246, 183, 53, 116, 61, 124, 254, 191, 187, 250, 120, 57, 159, 222, 92, 29, 25, 88, 218, 155, 210, 147, 17, 80, 84, 21, 151, 214, 5, 68, 198, 135, 131, 194, 64, 1, 72, 9, 139, 202, 206, 143, 13, 76, 149, 212, 86, 23, 19, 82, 208, 145, 216, 153, 27, 90, 94, 31, 157, 220, 15, 78, 204, 141, 137, 200, 74, 11, 66, 3, 129, 192, 196, 133, 7, 70, 224, 161, 35, 98, 102, 39, 165, 228, 173, 236, 110, 47, 43, 106, 232, 169, 122, 59, 185, 248, 252, 189, 63, 126, 55, 118, 244, 181, 177, 240, 114, 51, 127, 62, 188, 253, 249, 184, 58, 123, 50, 115, 241, 176, 180, 245, 119, 54, 229, 164, 38, 103, 99, 34, 160, 225, 168, 233, 107, 42, 46, 111, 237, 172, 10, 75, 201, 136, 140, 205, 79, 14, 71, 6, 132, 197, 193, 128, 2, 67, 144, 209, 83, 18, 22, 87, 213, 148, 221, 156, 30, 95, 91, 26, 152, 217]
theorem xi64 {n : Int} (h : ok64 n) : IntKind.i64.wrap n = n := wrap_i64 (by have := h.1; omega) (by have := h.2; omega)
theorem u64_def (n : Int) : IntKind.u64.wrap n = n % 18446744073709551616 := by
 unfold IntKind.wrap; simp [IntKind.bits, IntKind.signed]
theorem i64_def (n : Int) : IntKind.i64.wrap n = if n % 18446744073709551616 < 9223372036854775808 then n % 18446744073709551616 else n % 18446744073709551616 - 18446744073709551616 := by
 unfold IntKind.wrap; simp [IntKind.bits, IntKind.signed]
 split <;> split <;> omega
theorem i64_ok (n : Int) : ok64 (IntKind.i64.wrap n) := by
 rw [i64_def]; unfold ok64; split <;> omega
theorem i64_u64 {n : Int} (h : ok64 n) : IntKind.i64.wrap (IntKind.u64.wrap n) = n := by
 obtain ⟨h1, h2⟩ := h
 rw [i64_def, u64_def]; split <;> omega
theorem u64_i64 {n : Int} (h : okU64 n) : IntKind.u64.wrap (IntKind.i64.wrap n) = n := by
 obtain ⟨h1, h2⟩ := h
 rw [i64_def, u64_def]; split <;> omega
theorem u64_ok (n : Int) : okU64 (IntKind.u64.wrap n) := by
 rw [u64_def]; unfold okU64; omega
theorem ok8_64 {n : Int} (h : ok8 n) : ok64 n := by
 obtain ⟨h1, h2⟩ := h; unfold ok64; omega
structure DVal.Ok (v : DVal) : Prop where
 kind : ok8 v.kind
 bits : okU64 v.bits
 text : okText v.text
theorem law_val : Law rdVal encVal DVal.Ok := by
 refine (law_byte.pair (law_num.pair law_text)).map (fun p => { kind := p.1, bits := IntKind.u64.wrap p.2.1, text := p.2.2 }) (fun v => (v.kind, IntKind.i64.wrap v.bits, v.text)) (fun bs s => rfl) (fun x h => ?_) (fun x h => ⟨h.1, u64_ok _, h.2.2⟩) (fun y h => ⟨h.kind, i64_ok _, h.text⟩) (fun y h => ?_)
 simp only [encVal, xi64 (ok8_64 h.1), i64_u64 h.2.1, List.singleton_append, List.cons_append, List.nil_append]
 simp only [u64_i64 h.bits]
theorem DVal.Ok.len (v : DVal) : 1 ≤ (encVal v).length := by rw [encVal_length]; omega
structure DCell.Ok (c : DCell) : Prop where
 kind : ok8 c.kind
 lo : ok64 c.lo
 hi : ok64 c.hi
 max : ok64 c.max
 init : c.init.Ok
 dir : ok8 c.dir
 addr : okText c.addr
theorem law_cell : Law rdCell encCell DCell.Ok := by
 refine (law_byte.pair (law_truth.pair (law_num.pair (law_num.pair (law_num.pair (law_val.pair (law_truth.pair (law_byte.pair law_text)))))))).map
  (fun p => { kind := p.1, sub := p.2.1, lo := p.2.2.1, hi := p.2.2.2.1, max := p.2.2.2.2.1, init := p.2.2.2.2.2.1, keep := p.2.2.2.2.2.2.1, dir := p.2.2.2.2.2.2.2.1, addr := p.2.2.2.2.2.2.2.2 })
  (fun c => (c.kind, c.sub, c.lo, c.hi, c.max, c.init, c.keep, c.dir, c.addr)) (fun bs s => rfl) (fun x h => ?_) (fun x h => ?_) (fun y h => ?_) (fun y h => rfl)
 simp only [encCell, xi64 (ok8_64 h.1), encNums, List.flatMap_cons, List.flatMap_nil, List.append_assoc, List.nil_append, List.append_nil]
 exact ⟨h.1, h.2.2.1, h.2.2.2.1, h.2.2.2.2.1, h.2.2.2.2.2.1, h.2.2.2.2.2.2.2.1, h.2.2.2.2.2.2.2.2⟩
 exact ⟨h.kind, trivial, h.lo, h.hi, h.max, h.init, trivial, h.dir, h.addr⟩
structure DOp.Ok (o : DOp) : Prop where
 code : ok64 o.code
 a : ok64 o.a
 b : ok64 o.b
 c : ok64 o.c
 d : ok64 o.d
 lo : ok64 o.lo
 hi : ok64 o.hi
 value : o.value.Ok
theorem all_getD {l : List Int} {p : Int → Prop} (h : ∀ x ∈ l, p x) {i : Nat} (hi : i < l.length) : p (l.getD i 0) := by
 rw [List.getD_eq_getElem?_getD, List.getElem?_eq_getElem hi]; exact h _ (List.getElem_mem hi)
theorem law_op : Law rdOp encOp DOp.Ok := by
 refine ((law_nums 7).pair law_val).map (fun p => { code := p.1.getD 0 0, a := p.1.getD 1 0, b := p.1.getD 2 0, c := p.1.getD 3 0, d := p.1.getD 4 0, lo := p.1.getD 5 0, hi := p.1.getD 6 0, value := p.2 })
  (fun o => ([o.code, o.a, o.b, o.c, o.d, o.lo, o.hi], o.value)) (fun bs s => rfl) (fun x h => ?_) (fun x h => ?_) (fun y h => ?_) (fun y h => rfl)
 have e := list7 h.1.1
 simp only [encOp]
 rw [← e]
 obtain ⟨⟨hl, ha⟩, hv⟩ := h
 exact ⟨all_getD ha (by omega), all_getD ha (by omega), all_getD ha (by omega), all_getD ha (by omega), all_getD ha (by omega), all_getD ha (by omega), all_getD ha (by omega), hv⟩
 exact ⟨⟨rfl, by simp; exact ⟨h.code, h.a, h.b, h.c, h.d, h.lo, h.hi⟩⟩, h.value⟩
structure DLoop.Ok (l : DLoop) : Prop where
 head : ok64 l.head
 stop : ok64 l.stop
 times : ok64 l.times
theorem law_loop : Law rdLoop encLoop DLoop.Ok := by
 refine (law_num.pair (law_num.pair law_num)).map (fun p => { head := p.1, stop := p.2.1, times := p.2.2 }) (fun l => (l.head, l.stop, l.times)) (fun bs s => rfl) (fun x h => ?_) (fun x h => ⟨h.1, h.2.1, h.2.2⟩) (fun y h => ⟨h.head, h.stop, h.times⟩) (fun y h => rfl)
 simp only [encLoop, encNums, List.flatMap_cons, List.flatMap_nil, List.append_nil]
structure DFlat.Ok (f : DFlat) : Prop where
 name : okText f.name
 what : ok64 f.what
 cells : ok64 f.cells
 base : ok64 f.base
 regs : ok64 f.regs
 slots : ok64 f.slots
 nops : f.ops.length < 2 ^ 63
 ops : ∀ o ∈ f.ops, o.Ok
 nloops : f.loops.length < 2 ^ 63
 loops : ∀ l ∈ f.loops, l.Ok
theorem law_flat : Law rdFlat encFlat DFlat.Ok := by
 refine (law_text.pair ((law_nums 5).pair ((law_list law_op (fun x => by rw [encOp_length]; omega)).pair (law_list law_loop (fun x => by rw [encLoop_length]; omega))))).map
  (fun p => { name := p.1, what := p.2.1.getD 0 0, cells := p.2.1.getD 1 0, base := p.2.1.getD 2 0, regs := p.2.1.getD 3 0, slots := p.2.1.getD 4 0, ops := p.2.2.1, loops := p.2.2.2 })
  (fun f => (f.name, [f.what, f.cells, f.base, f.regs, f.slots], f.ops, f.loops)) (fun bs s => rfl) (fun x h => ?_) (fun x h => ?_) (fun y h => ?_) (fun y h => rfl)
 have e := list5 h.2.1.1
 simp only [encFlat]
 conv => rhs; rw [e]
 simp only [encNums, List.flatMap_cons, List.flatMap_nil, List.append_assoc, List.nil_append, List.append_nil]
 obtain ⟨ht, ⟨hl, ha⟩, ho, hp⟩ := h
 exact ⟨ht, all_getD ha (by omega), all_getD ha (by omega), all_getD ha (by omega), all_getD ha (by omega), all_getD ha (by omega), ho.1, ho.2, hp.1, hp.2⟩
 exact ⟨h.name, ⟨rfl, by simp; exact ⟨h.what, h.cells, h.base, h.regs, h.slots⟩⟩, ⟨h.nops, h.ops⟩, h.nloops, h.loops⟩
structure DJob.Ok (j : DJob) : Prop where
 name : okText j.name
 interval : ok64 j.interval
 single : ok64 j.single
 priority : ok64 j.priority
 ncodes : j.codes.length < 2 ^ 63
 codes : ∀ x ∈ j.codes, ok64 x
 nbases : j.bases.length < 2 ^ 63
 bases : ∀ x ∈ j.bases, ok64 x
 bound : ok64 j.bound
theorem law_job : Law rdJob encJob DJob.Ok := by
 refine (law_text.pair ((law_nums 3).pair ((law_list law_num (fun x => by rw [encNum_length]; omega)).pair ((law_list law_num (fun x => by rw [encNum_length]; omega)).pair law_num)))).map
  (fun p => { name := p.1, interval := p.2.1.getD 0 0, single := p.2.1.getD 1 0, priority := p.2.1.getD 2 0, codes := p.2.2.1, bases := p.2.2.2.1, bound := p.2.2.2.2 })
  (fun j => (j.name, [j.interval, j.single, j.priority], j.codes, j.bases, j.bound)) (fun bs s => rfl) (fun x h => ?_) (fun x h => ?_) (fun y h => ?_) (fun y h => rfl)
 have e := list3 h.2.1.1
 simp only [encJob]
 conv => rhs; rw [e]
 simp only [encNums, List.flatMap_cons, List.flatMap_nil, List.append_assoc, List.nil_append, List.append_nil]
 obtain ⟨ht, ⟨hl, ha⟩, ho, hp, hb⟩ := h
 exact ⟨ht, all_getD ha (by omega), all_getD ha (by omega), all_getD ha (by omega), ho.1, ho.2, hp.1, hp.2, hb⟩
 exact ⟨h.name, ⟨rfl, by simp; exact ⟨h.interval, h.single, h.priority⟩⟩, ⟨h.ncodes, h.codes⟩, ⟨h.nbases, h.bases⟩, h.bound⟩
structure DImage.Ok (m : DImage) : Prop where
 name : okText m.name
 ncells : m.cells.length < 2 ^ 63
 cells : ∀ c ∈ m.cells, c.Ok
 ncodes : m.codes.length < 2 ^ 63
 codes : ∀ f ∈ m.codes, f.Ok
 njobs : m.jobs.length < 2 ^ 63
 jobs : ∀ j ∈ m.jobs, j.Ok
def encBody (x : DImage) : List UInt8 := encText x.name ++ encNum x.cells.length ++ x.cells.flatMap encCell ++ encNum x.codes.length ++ x.codes.flatMap encFlat ++ encNum x.jobs.length ++ x.jobs.flatMap encJob
theorem encImage_body (x : DImage) : encImage x = [114, 108, 121, 1] ++ encBody x := by
 simp only [encImage, encBody, List.append_assoc]
def rdImage (bs : List UInt8) (s : RS) : DImage × RS :=
 let a := rdText bs s
 let c := rdList bs rdCell a.2
 let f := rdList bs rdFlat c.2
 let j := rdList bs rdJob f.2
 ({ name := a.1, cells := c.1, codes := f.1, jobs := j.1 }, j.2)
theorem law_image : Law rdImage encBody DImage.Ok := by
 refine (law_text.pair ((law_list law_cell (fun x => by rw [encCell_length]; omega)).pair ((law_list law_flat (fun x => by rw [encFlat_length]; omega)).pair (law_list law_job (fun x => by rw [encJob_length]; omega))))).map
  (fun p => { name := p.1, cells := p.2.1, codes := p.2.2.1, jobs := p.2.2.2 })
  (fun m => (m.name, m.cells, m.codes, m.jobs)) (fun bs s => rfl) (fun x h => ?_) (fun x h => ?_) (fun y h => ?_) (fun y h => rfl)
 simp only [encBody, List.append_assoc]
 exact ⟨h.1, h.2.1.1, h.2.1.2, h.2.2.1.1, h.2.2.1.2, h.2.2.2.1, h.2.2.2.2⟩
 exact ⟨h.name, ⟨h.ncells, h.cells⟩, ⟨h.ncodes, h.codes⟩, h.njobs, h.jobs⟩
theorem rdImage_le {bs : List UInt8} {s : RS} (h : s.at' ≤ bs.length) : (rdImage bs s).2.at' ≤ bs.length := rdList_le (fun _ => rdJob_le) (rdList_le (fun _ => rdFlat_le) (rdList_le (fun _ => rdCell_le) (rdText_le h)))
def magicB : List UInt8 := [114, 108, 121, 1]
def FrameOk (b : List UInt8) : Prop := b.length ≤ 4194304 ∧ 8 ≤ b.length ∧ b.take 4 = magicB ∧ b.drop (b.length - 4) = le4 (crc (b.take (b.length - 4)))
def magAt (i : Nat) : UInt8 := (magicB[i]?).getD 0
theorem u100 : Tryz.prog.underlying 100 = some (.array 4 5) := by kernel_rfl
theorem u28 : Tryz.prog.underlying 28 = some (.slice 5) := by kernel_rfl
theorem build_mag : aBuild Tryz.prog 100 [(0, .val (.int .u8 114)), (1, .val (.int .u8 108)), (2, .val (.int .u8 121)), (3, .val (.int .u8 1))] = some (.agg (magicB.map b8)) := by
 have := build4 114 108 121 1
 exact this
theorem idx_mag {i : Nat} (h : i < 4) : aIndex Tryz.prog 100 (.agg (magicB.map b8)) (pi i) = some (b8 (magAt i)) := by
 have : i = 0 ∨ i = 1 ∨ i = 2 ∨ i = 3 := by omega
 rcases this with rfl | rfl | rfl | rfl <;> simp [aIndex, u100, partOf, magicB, magAt]
theorem cut_lo {c : Nat} {bs : List UInt8} {a : Nat} (h : a ≤ bs.length) : aCutOp Tryz.prog 28 (PV.sl c 1 (bs.map brow)) (some (pi a)) none = some (PV.sl c 1 ((bs.drop a).map brow)) := by
 cases bs with
 | nil => simp at h; subst h; simp [aCutOp, cutOk, u28, aBound, acut, PV.sl]
 | cons b bs =>
  simp only [aCutOp, cutOk, u28, aBound, acut, PV.sl, List.map_cons, Tryz.sz5, Option.bind_some, Option.getD_some, Option.getD_none]
  simp only [List.length_cons, List.length_map] at h ⊢
  rw [if_pos (by simp), if_pos (by omega)]
  congr 1
  rw [← List.map_cons, ← List.map_take, ← List.map_drop, show (a : Int).toNat = a by omega]
  rw [List.take_of_length_le (by simp)]
theorem cut_hi {c : Nat} {bs : List UInt8} {n : Nat} (h : n ≤ bs.length) : aCutOp Tryz.prog 28 (PV.sl c 1 (bs.map brow)) none (some (pi n)) = some (PV.sl c 1 ((bs.take n).map brow)) := by
 cases bs with
 | nil => simp at h; subst h; simp [aCutOp, cutOk, u28, aBound, acut, PV.sl]
 | cons b bs =>
  simp only [aCutOp, cutOk, u28, aBound, acut, PV.sl, List.map_cons, Tryz.sz5, Option.bind_some, Option.getD_some, Option.getD_none]
  simp only [List.length_cons, List.length_map] at h ⊢
  rw [if_pos (by simp), if_pos (by omega)]
  congr 1
  rw [← List.map_cons, ← List.map_take, show (n : Int).toNat = n by omega]
  simp [PV.sl]
theorem arr4 {c : Nat} {l : List UInt8} (h : l.length = 4) : aArrayAt Tryz.prog 100 (PV.sl c 1 (l.map brow)) = some (.rptr c (l.map b8)) := by
 match l, h with
 | [a, b, d, e], _ => simp [aArrayAt, u100, PV.sl, brow_b8]
theorem load4 {l : List UInt8} (h : l.length = 4) : partOf Tryz.prog 100 (l.map b8) 0 = some (.agg (l.map b8)) := by
 match l, h with
 | [a, b, d, e], _ => simp [partOf]
theorem cells4 (l : List UInt8) : bytesOfCells (l.map b8) = some l := by
 induction l with
 | nil => rfl
 | cons b l ih =>
  have := b.toNat_lt
  show (if 0 ≤ ((b.toNat : Nat) : Int) ∧ ((b.toNat : Nat) : Int) < 256 then (bytesOfCells (l.map b8)).map (UInt8.ofNat ((b.toNat : Nat) : Int).toNat :: ·) else none) = _
  rw [if_pos ⟨by omega, by omega⟩, ih]
  simp
theorem u5' : Tryz.prog.underlying 5 = some (.int .u8) := by kernel_rfl
theorem gd100 : Tryz.prog.eqGuardType Tryz.prog.depth 100 = false := by kernel_rfl
theorem neq4' {l l' : List UInt8} (h : l.length = 4) (h' : l'.length = 4) (d : Nat) : aEqIn Tryz.prog (d + 2) 100 (.agg (l.map b8)) (.agg (l'.map b8)) = some (l == l') := by
 unfold aEqIn
 simp only [u100, aEqBytes, u5', Tryz.sz5, cells4, h, h']
 rw [if_pos (by omega)]; rfl
theorem neq4 {l l' : List UInt8} (h : l.length = 4) (h' : l'.length = 4) : aBin Tryz.prog .neq 100 (.agg (l.map b8)) (.agg (l'.map b8)) = some (pb (!(l == l'))) := by
 have e : aEqIn Tryz.prog Op.maxDepth 100 (.agg (l.map b8)) (.agg (l'.map b8)) = some (l == l') := neq4' h h' 9998
 simp only [aBin, gd100, e, if_true]
theorem bin_neq8 (P : Program) (t : TypeId) (a b : UInt8) : aBin P .neq t (b8 a) (b8 b) = some (pb (!decide (a = b))) := by
 show (aBinV .neq (.int .u8 a.toNat) (.int .u8 b.toNat)).map PV.val = _
 simp only [aBinV, Option.map_some, int_bne, Option.some.injEq]
 by_cases e : a = b
 simp [e]
 have : ¬ a.toNat = b.toNat := fun h => e (UInt8.toNat_inj.1 h)
 have h2 : ¬ (a.toNat : Int) = (b.toNat : Int) := by omega
 simp [e, h2]
theorem take_mag {b : List UInt8} {i : Nat} (h4 : i < 4) (hl : i < b.length) (h : b.take i = magicB.take i) (e : b[i] = magAt i) : b.take (i + 1) = magicB.take (i + 1) := by
 rw [List.take_succ_eq_append_getElem hl, h, e]
 have : i = 0 ∨ i = 1 ∨ i = 2 ∨ i = 3 := by omega
 rcases this with rfl | rfl | rfl | rfl <;> rfl
theorem no_mag {b : List UInt8} {i : Nat} (h4 : i < 4) (hl : i < b.length) (e : ¬ b[i] = magAt i) : ¬ FrameOk b := by
 rintro ⟨_, _, h, _⟩
 have h1 : (b.take 4)[i]? = magicB[i]? := by rw [h]
 rw [List.getElem?_take_of_lt h4, List.getElem?_eq_getElem hl] at h1
 apply e
 unfold magAt
 rw [← h1]; rfl
theorem le4_map (c : BitVec 32) : (le4 c).map b8 = [b8 (lowByte c), b8 (lowByte (c >>> 8)), b8 (lowByte (c >>> 16)), b8 (lowByte (c >>> 24))] := by rw [le4_eq]; rfl
theorem owes_ints {P : Program} {H : AS} {fn : Func} {x y : Int} {F' : AF} {H' : AS} {e : Exit} {X : Int → Int → Prop} (he : e = .normal ∨ e = .ret) (hwf : WF H) (hr : aResults P F' H' fn.results.toList = some [pi x, pi y]) (hX : X x y) (hext : H.Ext H') :
  Owes P fn H (fun r H'' => (∃ a b : Int, r = .tuple [pi a, pi b] ∧ X a b) ∧ H'' = H) e F' H' :=
 Owes.mono (fun q H' h => ⟨⟨x, y, h.1, hX⟩, h.2⟩) (owes_two he hwf hr rfl hext trivial trivial)
theorem frameIs (H : AS) (bs : List UInt8) (hb : bs.length < 2 ^ 62) (c : Nat) : ACalls Tryz.prog 20 [PV.sl c 1 (bs.map brow)] H fun q H' => (∃ a e : Int, q = .tuple [pi a, pi e] ∧ (e = 0 ↔ FrameOk bs)) ∧ H' = H := by
 refine ACalls_intro Tryz.func20 rfl (by kernel_rfl) (by simp) fun hwf hbel => ?_
 have hw4 : IntKind.i64.wrap ((bs.length : Int) - 4) = (bs.length : Int) - 4 := wrap_i64 (by omega) (by omega)
 refine T_sr fun K0 hK0 => ?_
 simp [frame0]
 apply hK0
 refine T_scope 0 (fun F H' => F 0 = PV.sl c 1 (bs.map brow) ∧ (∃ a e : Int, F 4 = pi a ∧ F 5 = pi e ∧ (e = 0 ↔ FrameOk bs)) ∧ H' = H) (by rfl) ?_ ?_
 refine T_sr fun K1 hK1 => ?_
 simp [frame0]
 apply hK1
 refine T_sr fun K2 hK2 => ?_
 simp [aLen, aBin, aBinV, frame0, hw4]
 apply hK2
 refine T_seqk fun K3 hK3 => ?_
 refine T_sr fun K4 hK4 => ?_
 simp [aLen, aBin, aBinV, frame0]
 apply hK4
 refine T_cond (rfl) (fun c0 => ?_) (fun c0 => ?_)
 refine T_sr fun K5 hK5 => ?_
 simp [frame0]
 apply hK5
 refine T_goto ?_
 try simp only [thenK_goto, blockT_goto, loopT_goto, jumpT_goto, true_and]
 have hno : ¬ FrameOk bs := fun h => by have := h.1; simp at c0; omega
 simp [put_at, frame0, hno]
 refine T_skip ?_
 try simp only [kn]
 apply hK3
 refine T_seqk fun K6 hK6 => ?_
 refine T_block ?_
 refine T_loop (fun k F H' => ∃ i : Nat, k = 4 - i ∧ i ≤ 4 ∧ i ≤ bs.length ∧ F 0 = PV.sl c 1 (bs.map brow) ∧ F 4 = pi i ∧ F 5 = pi 0 ∧ F 6 = pi ((bs.length : Int) - 4) ∧ bs.take i = magicB.take i ∧ H' = H) (4) ?_ ?_
 exact ⟨0, by simp [put_at, frame0]⟩
 rintro k F H' ⟨i, rfl, hi, hil, g0, g4, g5, g6, hmag, rfl⟩
 refine T_seqk fun K7 hK7 => ?_
 refine T_sr fun K8 hK8 => ?_
 simp [aBin, aBinV, frame0, g0, g4, g5, g6]
 apply hK8
 refine T_cond (by first | rfl | exact g0 | exact g4 | exact g5 | exact g6) (fun c1 => ?_) (fun c1 => ?_)
 have hi4 : i < 4 := by simp at c1; omega
 refine T_skip ?_
 try simp only [kn]
 apply hK7
 refine T_block ?_
 refine T_seqk fun K9 hK9 => ?_
 refine T_sr fun K10 hK10 => ?_
 simp [aLen, aBin, aBinV, frame0, g0, g4, g5, g6]
 apply hK10
 refine T_cond (by first | rfl | exact g0 | exact g4 | exact g5 | exact g6) (fun c2 => ?_) (fun c2 => ?_)
 refine T_sr fun K11 hK11 => ?_
 simp [frame0, g0, g4, g5, g6]
 apply hK11
 refine T_goto ?_
 try simp only [thenK_goto, blockT_goto, loopT_goto, jumpT_goto, true_and]
 have hno : ¬ FrameOk bs := fun h => by have := h.2.1; simp at c2; omega
 simp [put_at, frame0, hno, g0, g4, g5, g6]
 have hlt : i < bs.length := by simp at c2; omega
 refine T_skip ?_
 try simp only [kn]
 apply hK9
 refine T_seqk fun K12 hK12 => ?_
 refine T_seqk fun K13 hK13 => ?_
 refine T_draw (fun _ => True) [] (.free 0 (.free 1 (.free 2 (.free 3 (.free 4 (.free 5 (.free 6 (.free 7 .done)))))))) mix ?_ ?_ ?_
 kernel_rfl
 kernel_rfl
 simp [Keeps, Same, aIndexAddr, aload, splice, frame0, g0, g4, g5, g6, sl_get (map_get (f := brow) hlt), part_byte, build_mag, idx_mag hi4, bin_neq8]
 apply hK13
 refine T_cond (by first | rfl | exact g0 | exact g4 | exact g5 | exact g6) (fun c3 => ?_) (fun c3 => ?_)
 refine T_sr fun K14 hK14 => ?_
 simp [frame0, g0, g4, g5, g6]
 apply hK14
 refine T_goto ?_
 try simp only [thenK_goto, blockT_goto, loopT_goto, jumpT_goto, true_and]
 have hno : ¬ FrameOk bs := no_mag hi4 hlt (by simpa using c3)
 simp [put_at, frame0, hno, g0, g4, g5, g6]
 refine T_skip ?_
 try simp only [kn]
 apply hK12
 refine T_rg ?_
 simp [aBin, aBinV, frame0, g0, g4, g5, g6]
 refine ⟨4 - (i + 1), by omega, i + 1, rfl, by omega, by omega, by rw [wrap_i64 (by omega) (by omega)]; rfl, take_mag hi4 hlt hmag (by simpa using c3)⟩
 have hi4 : i = 4 := by simp at c1; omega
 subst hi4
 refine T_exit ?_
 try simp only [ke, kn, if_true, if_false, Nat.reduceEqDiff, reduceIte]
 apply hK6
 refine T_sr fun K15 hK15 => ?_
 simp [aLen, frame0, g0, g4, g5, g6]
 apply hK15
 refine T_seqk fun K16 hK16 => ?_
 refine T_sr fun K17 hK17 => ?_
 simp [aBin, aBinV, frame0, g0, g4, g5, g6]
 apply hK17
 refine T_cond (by first | rfl | exact g0 | exact g4 | exact g5 | exact g6) (fun c4 => ?_) (fun c4 => ?_)
 refine T_sr fun K18 hK18 => ?_
 simp [frame0, g0, g4, g5, g6]
 apply hK18
 refine T_goto ?_
 try simp only [thenK_goto, blockT_goto, loopT_goto, jumpT_goto, true_and]
 have hno : ¬ FrameOk bs := fun h => by have := h.2.1; simp at c4; omega
 simp [put_at, frame0, hno, g0, g4, g5, g6]
 obtain ⟨n, hn4⟩ : ∃ n : Nat, bs.length = n + 4 := ⟨bs.length - 4, by omega⟩
 have hn : n ≤ bs.length := by omega
 have hcn : (bs.length : Int) - 4 = (n : Int) := by omega
 rw [hcn] at g6
 have hd4 : (bs.drop n).length = 4 := by simp; omega
 have hl4 : (le4 (crc (bs.take n))).length = 4 := le4_length _
 have hnn : bs.length - 4 = n := by omega
 refine T_skip ?_
 try simp only [kn]
 apply hK16
 refine T_sr fun K19 hK19 => ?_
 simp [frame0, g0, g4, g5, g6]
 apply hK19
 refine T_seqk fun K20 hK20 => ?_
 refine T_seqk fun K21 hK21 => ?_
 refine T_draw (fun _ => True) [] (.free 0 (.free 1 (.free 2 (.free 3 (.free 4 (.free 5 (.free 6 (.free 7 (.free 8 (.free 9 (.free 10 .done))))))))))) mix ?_ ?_ ?_
 kernel_rfl
 kernel_rfl
 simp [Keeps, Same, aload, frame0, g0, g4, g5, g6, cut_lo hn, cut_hi hn, arr4 hd4, load4 hd4, neq4 hd4 hl4, ← le4_map, -List.map_drop, -List.map_take]
 refine askK.of _ ?_ (fun H' hS => sumFrozen _ (bs.take n) (by simp; omega) c) ?_
 intro H' hS; first | rfl | (rw [hS.2])
 simp [Keeps, Same, aload, frame0, g0, g4, g5, g6, cut_lo hn, cut_hi hn, arr4 hd4, load4 hd4, neq4 hd4 hl4, ← le4_map, -List.map_drop, -List.map_take]
 refine askK.of _ ?_ (fun H' hS => littleIs _ (crc (bs.take n))) ?_
 intro H' hS; first | rfl | (rw [hS.2])
 simp [Keeps, Same, aload, frame0, g0, g4, g5, g6, cut_lo hn, cut_hi hn, arr4 hd4, load4 hd4, neq4 hd4 hl4, ← le4_map, -List.map_drop, -List.map_take]
 apply hK21
 refine T_cond (by first | rfl | exact g0 | exact g4 | exact g5 | exact g6) (fun c5 => ?_) (fun c5 => ?_)
 have hno : ¬ FrameOk bs := fun h => by
  have h2 := h.2.2.2
  rw [hnn] at h2
  simp [h2] at c5
 refine T_rg ?_
 simp [frame0, g0, g4, g5, g6]
 apply hK20
 refine T_seqk fun K22 hK22 => ?_
 refine T_label ?_
 try simp only [kn]
 apply hK22
 refine T_seqk fun K23 hK23 => ?_
 refine T_sr fun K24 hK24 => ?_
 simp [aBin, aBinV, frame0, g0, g4, g5, g6]
 apply hK24
 refine T_cond (by first | rfl | exact g0 | exact g4 | exact g5 | exact g6) (fun c6 => ?_) (fun c6 => ?_)
 exact absurd c6 (by decide) --done
 refine T_skip ?_
 try simp only [kn]
 apply hK23
 refine T_sr fun K25 hK25 => ?_
 simp [frame0, g0, g4, g5, g6]
 apply hK25
 refine T_ret ?_
 try simp only [kr]
 exact owes_ints (X := fun _ e => (e = 0 ↔ FrameOk bs)) (x := n) (y := 201) (.inr rfl) hwf rfl (by simp [hno]) (.refl _)
 have hok : FrameOk bs := ⟨by simp at c0; omega, by simp at c4; omega, hmag, by rw [hnn]; simpa using c5⟩
 refine T_skip ?_
 try simp only [kn]
 apply hK20
 refine T_seqk fun K26 hK26 => ?_
 refine T_label ?_
 try simp only [kn]
 apply hK26
 refine T_seqk fun K27 hK27 => ?_
 refine T_sr fun K28 hK28 => ?_
 simp [aBin, aBinV, frame0, g0, g4, g5, g6]
 apply hK28
 refine T_cond (by first | rfl | exact g0 | exact g4 | exact g5 | exact g6) (fun c7 => ?_) (fun c7 => ?_)
 refine T_rg ?_
 simp [frame0, g0, g4, g5, g6]
 apply hK27
 refine T_sr fun K29 hK29 => ?_
 simp [frame0, g0, g4, g5, g6]
 apply hK29
 refine T_ret ?_
 try simp only [kr]
 exact owes_ints (X := fun _ e => (e = 0 ↔ FrameOk bs)) (x := 0) (y := 0) (.inr rfl) hwf rfl (by simp [hok]) (.refl _)
 exact absurd c7 (by decide) --done
 rintro F H' ⟨g0, ⟨a, e, g4, g5, he⟩, rfl⟩
 refine T_seqk fun KL hKL => ?_
 refine T_skip ?_
 try simp only [thenK_normal]
 refine hKL _ _ ?_
 clear hKL KL
 refine T_seqk fun K30 hK30 => ?_
 refine T_sr fun K31 hK31 => ?_
 simp [aBin, aBinV, frame0, g0, g4, g5]
 apply hK31
 refine T_cond (by first | rfl | exact g0 | exact g4 | exact g5) (fun c8 => ?_) (fun c8 => ?_)
 refine T_rg ?_
 simp [frame0, g0, g4, g5]
 apply hK30
 refine T_sr fun K32 hK32 => ?_
 simp [frame0, g0, g4, g5]
 apply hK32
 refine T_ret ?_
 try simp only [kr]
 have e0 : e = 0 := by simpa using c8
 exact owes_ints (X := fun _ e => (e = 0 ↔ FrameOk bs)) (x := 0) (y := e) (.inr rfl) hwf (by rw [show Tryz.f20.results.toList = [.tmp 2, .tmp 3] from rfl]; simp [aResults, put_at, g5]) he (.refl _)
 refine T_skip ?_
 try simp only [kn]
 apply hK30
 refine T_sr fun K33 hK33 => ?_
 simp [frame0, g0, g4, g5]
 apply hK33
 refine T_ret ?_
 try simp only [kr]
 exact owes_ints (X := fun _ e => (e = 0 ↔ FrameOk bs)) (x := a) (y := e) (.inr rfl) hwf (by rw [show Tryz.f20.results.toList = [.tmp 2, .tmp 3] from rfl]; simp [aResults, put_at, g4, g5]) he (.refl _)
def rs0 : RS := ⟨4, 0, 0⟩
def body (b : List UInt8) : List UInt8 := b.take (b.length - 4)
def rdAll (b : List UInt8) : DImage × RS := rdImage (body b) rs0
def DecOk (b : List UInt8) : Prop := FrameOk b ∧ (rdAll b).2.e = 0 ∧ (rdAll b).2.at' = (body b).length ∧ checkE (rdAll b).1 = 0
def zeroImg : DImage := ⟨⟨#[]⟩, [], [], []⟩
theorem mem_flat {α : Type} {f : α → List UInt8} : ∀ {xs : List α} {x : α}, x ∈ xs → (f x).length ≤ (xs.flatMap f).length
 | y :: xs, x, h => by
  rw [List.flatMap_cons, List.length_append]
  rcases List.mem_cons.1 h with rfl | h
  ·omega
  ·have := mem_flat (f := f) h; omega
structure SmallImg (m : DImage) : Prop where
 cells : m.cells.length < 2 ^ 62
 codes : m.codes.length < 2 ^ 62
 jobs : m.jobs.length < 2 ^ 62
 ops : ∀ f ∈ m.codes, f.ops.length < 2 ^ 62 ∧ f.loops.length < 2 ^ 62
 addr : ∀ x ∈ m.cells, x.addr.size ≤ 281474976710656
theorem small_body {m : DImage} (h : (encBody m).length < 2 ^ 40) : SmallImg m := by
 unfold encBody at h
 simp only [List.length_append] at h
 have h1 : m.cells.length ≤ (m.cells.flatMap encCell).length := flat_ge (fun x => by rw [encCell_length]; omega)
 have h2 : m.codes.length ≤ (m.codes.flatMap encFlat).length := flat_ge (fun x => by rw [encFlat_length]; omega)
 have h3 : m.jobs.length ≤ (m.jobs.flatMap encJob).length := flat_ge (fun x => by rw [encJob_length]; omega)
 refine ⟨by omega, by omega, by omega, fun f hf => ?_, fun x hx => ?_⟩
 have h4 := mem_flat (f := encFlat) hf
 rw [encFlat_length] at h4
 have h5 : f.ops.length ≤ (f.ops.flatMap encOp).length := flat_ge (fun x => by rw [encOp_length]; omega)
 have h6 : f.loops.length ≤ (f.loops.flatMap encLoop).length := flat_ge (fun x => by rw [encLoop_length]; omega)
 exact ⟨by omega, by omega⟩
 have h4 := mem_flat (f := encCell) hx
 rw [encCell_length] at h4
 omega
theorem rd_small {b : List UInt8} (hb : b.length < 2 ^ 40) (h8 : 8 ≤ b.length) (he : (rdAll b).2.e = 0) : SmallImg (rdAll b).1 := by
 have hl : (body b).length < 2 ^ 40 := by unfold body; simp; omega
 have h4 : rs0.at' ≤ (body b).length := by unfold body rs0; simp; omega
 obtain ⟨_, hh, _⟩ := law_image.sound (body b) rs0 rfl h4 he
 have := hh.1
 exact small_body (by unfold rdAll; omega)
structure Dg (H H' : AS) (bs : List UInt8) (c : Nat) (s : RS) (row : List PV) : Prop where
 ok : RdOk H' (H.next + 1) bs c s
 img : H'.box (H.next + 2) = some [row]
 res : H'.box H.next = some [[ps ⟨#[]⟩, .nil, .nil, .nil]]
 ext : H.Ext H'
 nx : H'.next = H.next + 3
theorem Dg.step {H H' : AS} {bs : List UInt8} {c : Nat} {s s' : RS} {row row' : List PV} (h : Dg H H' bs c s row) (hle : s'.at' ≤ bs.length) : Dg H ((H'.setBox (H.next + 1) [rrow bs c s']).setBox (H.next + 2) [row']) bs c s' row' :=
 ⟨⟨by simp, hle, h.ok.small⟩, by simp, by simpa using h.res, .setBox (by omega) (.setBox (by omega) h.ext), h.nx⟩
theorem Dg.set {H H' : AS} {bs : List UInt8} {c : Nat} {s s' : RS} {row : List PV} (h : Dg H H' bs c s row) (hle : s'.at' ≤ bs.length) : Dg H (H'.setBox (H.next + 1) [rrow bs c s']) bs c s' row :=
 ⟨⟨by simp, hle, h.ok.small⟩, by simpa using h.img, by simpa using h.res, .setBox (by omega) h.ext, h.nx⟩
theorem frozen_img (c : Nat) (m : DImage) : ∀ p ∈ m.row c, Frozen p := by simp [DImage.row]
theorem below_img (n c : Nat) (m : DImage) : ∀ p ∈ m.row c, Below n p := by
 simp only [DImage.row, List.mem_cons, List.not_mem_nil, or_false]
 rintro p (rfl | rfl | rfl | rfl)
 simp
 rw [below_sl]; intro r hr p hp; obtain ⟨x, _, rfl⟩ := List.mem_map.1 hr; exact below_rowCell n x p hp
 rw [below_sl]; intro r hr p hp; obtain ⟨x, _, rfl⟩ := List.mem_map.1 hr; exact below_rowFlat n c x p hp
 rw [below_sl]; intro r hr p hp; obtain ⟨x, _, rfl⟩ := List.mem_map.1 hr; exact below_rowJob n c x p hp
theorem owes_dec {H : AS} {fn : Func} {m : DImage} {d : Nat} {x y : Int} {F' : AF} {H' : AS} {e : Exit} {X : DImage → Int → Int → Prop} (he : e = .normal ∨ e = .ret) (hwf : WF H) (hr : aResults Tryz.prog F' H' fn.results.toList = some [.agg (m.row H.color), pi x, pi y]) (hX : X m x y) (hext : H.Ext H') :
  Owes Tryz.prog fn H (fun r H'' => (∃ (m : DImage) (a b : Int), r = .tuple [.agg (m.row H.color), pi a, pi b] ∧ X m a b) ∧ H'' = H) e F' H' := by
 refine Owes.mono (k := fun r H'' => r = .tuple [.agg (m.row H.color), pi x, pi y] ∧ H'' = H) (fun q H' h => ⟨⟨m, x, y, h.1, hX⟩, h.2⟩) ?_
 have hv : ∀ H1, frzV H1 (.agg (m.row H.color)) = (.agg (m.row H.color), H1) := fun H1 => frzV_one ⟨fun cs h => by cases h; exact frozen_img _ _, trivial⟩
 refine owes_pure he hwf hr ?_ ?_ ?_ <;> simp [frzVs, hv, frzV_one (p := pi _) ⟨by simp, by simp⟩, packed]
 exact hext
 exact below_img _ _ _
theorem owes_zero {H : AS} {fn : Func} {x y : Int} {F' : AF} {H' : AS} {e : Exit} {X : DImage → Int → Int → Prop} (he : e = .normal ∨ e = .ret) (hwf : WF H) (hr : aResults Tryz.prog F' H' fn.results.toList = some [.agg [ps ⟨#[]⟩, .nil, .nil, .nil], pi x, pi y]) (hX : X zeroImg x y) (hext : H.Ext H') :
  Owes Tryz.prog fn H (fun r H'' => (∃ (m : DImage) (a b : Int), r = .tuple [.agg (m.row H.color), pi a, pi b] ∧ X m a b) ∧ H'' = H) e F' H' := by
 refine Owes.mono (k := fun r H'' => r = .tuple [.agg (zeroImg.row H.color), pi x, pi y] ∧ H'' = H) (fun q H' h => ⟨⟨zeroImg, x, y, h.1, hX⟩, h.2⟩) ?_
 have hv : ∀ H1, frzV H1 (.agg [ps ⟨#[]⟩, .nil, .nil, .nil]) = (.agg (zeroImg.row H.color), H1) := fun H1 => rfl
 refine owes_pure he hwf hr ?_ ?_ ?_ <;> simp [frzVs, hv, frzV_one (p := pi _) ⟨by simp, by simp⟩, packed]
 exact hext
 exact below_img _ _ _
theorem decodeIs (H : AS) (bs : List UInt8) (hb : bs.length < 2 ^ 62) (c : Nat) : ACalls Tryz.prog 11 [PV.sl c 1 (bs.map brow)] H fun q H' => (∃ (m : DImage) (a e : Int), q = .tuple [.agg (m.row H.color), pi a, pi e] ∧ (e = 0 ↔ DecOk bs) ∧ (e = 0 → m = (rdAll bs).1 ∧ a = 0)) ∧ H' = H := by
 refine ACalls_intro Tryz.func11 rfl (by kernel_rfl) (by simp) fun hwf hbel => ?_
 refine T_sr fun K0 hK0 => ?_
 simp [aalloc, frame0]
 apply hK0
 refine T_seqk fun K1 hK1 => ?_
 refine T_sr fun K2 hK2 => ?_
 simp [aExtract, frame0]
 refine callK.of (frameIs _ bs hb c) ?_
 rintro _ Hz ⟨⟨fa, fe, rfl, hfe⟩, hz⟩
 subst Hz
 simp [aExtract, frame0]
 apply hK2
 refine T_sr fun K3 hK3 => ?_
 simp [aBin, aBinV, frame0]
 apply hK3
 refine T_cond (rfl) (fun c0 => ?_) (fun c0 => ?_)
 refine T_sr fun K4 hK4 => ?_
 simp [aBuild, aBuild.go, splice, astore, frame0]
 apply hK4
 refine T_ret ?_
 try simp only [kr]
 have hne : ¬ fe = 0 := by simpa using c0
 have hno : ¬ DecOk bs := fun h => hne (hfe.2 h.1)
 refine owes_zero (x := fa) (y := fe) (X := (fun m a e => (e = 0 ↔ DecOk bs) ∧ (e = 0 → m = (rdAll bs).1 ∧ a = 0))) (.inr rfl) hwf ?_ ⟨⟨fun h => absurd h hne, fun h => absurd h hno⟩, fun h => absurd h hne⟩ (.setBox (Nat.le_refl _) (.bump (.setBox (Nat.le_refl _) (.refl _))))
 rw [show Tryz.f11.results.toList = [.cell 2 26, .tmp 3, .tmp 4] from rfl]
 simp [aResults, aload, partOf, put_at, frame0]
 have hok : FrameOk bs := hfe.1 (by simpa using c0)
 have hn4 : bs.length - 4 ≤ bs.length := by omega
 have h8 := hok.2.1
 have hw4 : IntKind.i64.wrap ((bs.length : Int) - 4) = ((bs.length - 4 : Nat) : Int) := by rw [wrap_i64 (by omega) (by omega)]; omega
 have hlong := hok.1
 have hbl : (body bs).length < 2 ^ 40 := by unfold body; simp; omega
 have h4 : rs0.at' ≤ (body bs).length := by unfold body rs0; simp; omega
 refine T_skip ?_
 try simp only [kn]
 apply hK1
 refine T_sr fun K5 hK5 => ?_
 simp [aLen, aBin, aBinV, aBuild, aBuild.go, splice, abox, frame0, hw4, cut_hi hn4]
 apply hK5
 refine T_mid (fun F H' => F 2 = .ptr H.next 1 0 0 ∧ F 7 = .ptr (H.next + 1) 1 0 0 ∧ F 8 = .ptr (H.next + 2) 1 0 0 ∧ Dg H H' (body bs) c (rdText (body bs) rs0).2 [ps (rdText (body bs) rs0).1, .nil, .nil, .nil]) ?_ ?_
 refine T_rg ?_
 simp [aBuild, aBuild.go, splice, aalloc, astore, frame0]
 refine callK.of (textIs _ (H.next + 1) (body bs) c rs0 ⟨by simp [rrow, rs0, body], h4, hbl⟩) ?_
 rintro _ H2 ⟨rfl, rfl⟩
 simp [aBuild, aBuild.go, splice, aalloc, astore, frame0]
 exact ⟨⟨by simp, rdText_le h4, hbl⟩, by simp, by simp [nx2], .setBox (by omega) (.bump (.setBox (by omega) (.setBox (by omega) (.bump (.setBox (by omega) (.bump (.setBox (Nat.le_refl _) (.refl _)))))))), by simp⟩
 rintro F H' ⟨g2, g7, g8, hg⟩
 have hcol : H'.color = H.color := hg.ext.color
 have hn := hg.nx
 have b1 := hg.ok.box
 have b2 := hg.img
 have b3 := hg.res
 refine T_mid (fun F H' => F 2 = .ptr H.next 1 0 0 ∧ F 7 = .ptr (H.next + 1) 1 0 0 ∧ F 8 = .ptr (H.next + 2) 1 0 0 ∧ Dg H H' (body bs) c (rdList (body bs) rdCell (rdText (body bs) rs0).2).2 [ps (rdText (body bs) rs0).1, PV.sl H.color 11 ((rdList (body bs) rdCell (rdText (body bs) rs0).2).1.map DCell.row), .nil, .nil]) ?_ ?_
 refine T_rg ?_
 simp [aFieldAddr, astore, splice, frame0, g2, g7, g8, hn, b2, hcol]
 refine callK.of (cellsIs _ (H.next + 1) (body bs) c _ hg.ok) ?_
 rintro _ H2 ⟨rfl, rfl⟩
 simp [aFieldAddr, astore, splice, frame0, g2, g7, g8, hn, b2, hcol]
 exact hg.step (rdList_le (fun _ => rdCell_le) (rdText_le h4))
 rintro F H' ⟨g2, g7, g8, hg⟩
 have hcol : H'.color = H.color := hg.ext.color
 have hn := hg.nx
 have b1 := hg.ok.box
 have b2 := hg.img
 have b3 := hg.res
 refine T_mid (fun F H' => F 2 = .ptr H.next 1 0 0 ∧ F 7 = .ptr (H.next + 1) 1 0 0 ∧ F 8 = .ptr (H.next + 2) 1 0 0 ∧ Dg H H' (body bs) c (rdList (body bs) rdFlat (rdList (body bs) rdCell (rdText (body bs) rs0).2).2).2 [ps (rdText (body bs) rs0).1, PV.sl H.color 11 ((rdList (body bs) rdCell (rdText (body bs) rs0).2).1.map DCell.row), PV.sl H.color 8 ((rdList (body bs) rdFlat (rdList (body bs) rdCell (rdText (body bs) rs0).2).2).1.map (DFlat.row H.color)), .nil]) ?_ ?_
 refine T_rg ?_
 simp [aFieldAddr, astore, splice, frame0, g2, g7, g8, hn, b2, hcol]
 refine callK.of (flatsIs _ (H.next + 1) (body bs) c _ hg.ok) ?_
 rintro _ H2 ⟨rfl, rfl⟩
 simp [aFieldAddr, astore, splice, frame0, g2, g7, g8, hn, b2, hcol]
 exact hg.step (rdList_le (fun _ => rdFlat_le) (rdList_le (fun _ => rdCell_le) (rdText_le h4)))
 rintro F H' ⟨g2, g7, g8, hg⟩
 have hcol : H'.color = H.color := hg.ext.color
 have hn := hg.nx
 have b1 := hg.ok.box
 have b2 := hg.img
 have b3 := hg.res
 refine T_mid (fun F H' => F 2 = .ptr H.next 1 0 0 ∧ F 7 = .ptr (H.next + 1) 1 0 0 ∧ F 8 = .ptr (H.next + 2) 1 0 0 ∧ Dg H H' (body bs) c (rdList (body bs) rdJob (rdList (body bs) rdFlat (rdList (body bs) rdCell (rdText (body bs) rs0).2).2).2).2 [ps (rdText (body bs) rs0).1, PV.sl H.color 11 ((rdList (body bs) rdCell (rdText (body bs) rs0).2).1.map DCell.row), PV.sl H.color 8 ((rdList (body bs) rdFlat (rdList (body bs) rdCell (rdText (body bs) rs0).2).2).1.map (DFlat.row H.color)), PV.sl H.color 7 ((rdList (body bs) rdJob (rdList (body bs) rdFlat (rdList (body bs) rdCell (rdText (body bs) rs0).2).2).2).1.map (DJob.row H.color))]) ?_ ?_
 refine T_rg ?_
 simp [aFieldAddr, astore, splice, frame0, g2, g7, g8, hn, b2, hcol]
 refine callK.of (jobsIs _ (H.next + 1) (body bs) c _ hg.ok) ?_
 rintro _ H2 ⟨rfl, rfl⟩
 simp [aFieldAddr, astore, splice, frame0, g2, g7, g8, hn, b2, hcol]
 exact hg.step (rdList_le (fun _ => rdJob_le) (rdList_le (fun _ => rdFlat_le) (rdList_le (fun _ => rdCell_le) (rdText_le h4))))
 rintro F H' ⟨g2, g7, g8, hg⟩
 have hcol : H'.color = H.color := hg.ext.color
 have hn := hg.nx
 have b1 := hg.ok.box
 have b2 := hg.img
 have b3 := hg.res
 by_cases he : (rdList (body bs) rdJob (rdList (body bs) rdFlat (rdList (body bs) rdCell (rdText (body bs) rs0).2).2).2).2.e = 0
 have hst : (rdAll bs).2 = (rdList (body bs) rdJob (rdList (body bs) rdFlat (rdList (body bs) rdCell (rdText (body bs) rs0).2).2).2).2 := rfl
 have hsm : SmallImg (rdAll bs).1 := rd_small (by omega) h8 he
 refine T_seqk fun K6 hK6 => ?_
 refine T_seqk fun K7 hK7 => ?_
 refine T_draw (fun _ => True) [] (.free 0 (.free 1 (.free 2 (.free 3 (.free 4 (.free 5 (.free 6 (.free 7 (.free 8 (.free 9 (.free 10 (.free 11 (.free 12 (.free 13 (.free 14 (.free 15 (.free 16 .done))))))))))))))))) mix ?_ ?_ ?_
 kernel_rfl
 kernel_rfl
 simp [Keeps, Same, ↓wanted_some, aFieldAddr, aload, partOf, aBin, aBinV, aLen, frame0, g2, g7, g8, he, b1, rrow, int_beq]
 apply hK7
 refine T_cond (by first | rfl | exact g2 | exact g7 | exact g8 | exact g2 | exact g7 | exact g8 | exact g2 | exact g7 | exact g8 | exact g2 | exact g7 | exact g8 | exact he) (fun c1 => ?_) (fun c1 => ?_)
 have hno : ¬ DecOk bs := fun h => by
  have h2 := h.2.2.1
  rw [hst] at h2
  simp at c1
  omega
 refine T_rg ?_
 simp [aFieldAddr, aload, partOf, frame0, g2, g7, g8, he, b1, rrow]
 refine callK.of (refuseIs _ (H.next + 1) (body bs) c _ hg.ok _ _) ?_
 rintro _ H2 ⟨rfl, rfl⟩
 simp [aFieldAddr, aload, partOf, frame0, g2, g7, g8, he, b1, rrow]
 apply hK6
 refine T_seqk fun K8 hK8 => ?_
 refine T_sr fun K9 hK9 => ?_
 simp [aFieldAddr, aload, partOf, aBin, aBinV, frame0, g2, g7, g8, he, b1, rrow, rdRefuse, int_bne]
 apply hK9
 refine T_cond (by first | rfl | exact g2 | exact g7 | exact g8 | exact g2 | exact g7 | exact g8 | exact g2 | exact g7 | exact g8 | exact g2 | exact g7 | exact g8 | exact he) (fun c2 => ?_) (fun c2 => ?_)
 refine T_seqk fun K10 hK10 => ?_
 refine T_draw (fun id => id = H.next + 1) [] (.free 0 (.free 1 (.free 2 (.free 3 (.free 4 (.free 5 (.free 6 (.free 7 (.free 8 (.sole 9 (.free 10 (.free 11 .done)))))))))))) mix ?_ ?_ ?_
 kernel_rfl
 kernel_rfl
 simp [Keeps, Same, aBuild, aBuild.go, splice, aFieldAddr, aload, partOf, astore, frame0, g2, g7, g8, he, b1, b2, b3, rrow, rdRefuse]
 apply hK10
 refine T_ret ?_
 try simp only [kr]
 have hne : ¬ (3 : Int) = 0 := by decide
 refine owes_zero (x := (((rdList (body bs) rdJob (rdList (body bs) rdFlat (rdList (body bs) rdCell (rdText (body bs) rs0).2).2).2).2.at' : Nat) : Int)) (y := 3) (X := (fun m a e => (e = 0 ↔ DecOk bs) ∧ (e = 0 → m = (rdAll bs).1 ∧ a = 0))) (.inr rfl) hwf ?_ ⟨⟨fun h => absurd h hne, fun h => absurd h hno⟩, fun h => absurd h hne⟩ (.setBox (Nat.le_refl _) (.setBox (by omega) hg.ext))
 rw [show Tryz.f11.results.toList = [.cell 2 26, .tmp 3, .tmp 4] from rfl]
 simp [aResults, aload, partOf, put_at, frame0, g2]
 exact absurd c2 (by simp) --done
 have hge : (rdAll bs).2.at' = (body bs).length := by
  have h1 := rdImage_le (bs := body bs) (s := rs0) h4
  have h2 : (rdAll bs).2.at' ≤ (body bs).length := h1
  rw [hst] at h2 ⊢
  simp at c1
  omega
 refine T_skip ?_
 try simp only [kn]
 apply hK6
 refine T_seqk fun K11 hK11 => ?_
 refine T_sr fun K12 hK12 => ?_
 simp [aFieldAddr, aload, partOf, aBin, aBinV, frame0, g2, g7, g8, he, b1, rrow, rdRefuse, int_bne]
 apply hK12
 refine T_cond (by first | rfl | exact g2 | exact g7 | exact g8 | exact g2 | exact g7 | exact g8 | exact g2 | exact g7 | exact g8 | exact g2 | exact g7 | exact g8 | exact he) (fun c3 => ?_) (fun c3 => ?_)
 exact absurd c3 (by simp [he]) --done
 refine T_skip ?_
 try simp only [kn]
 apply hK11
 refine T_seqk fun K13 hK13 => ?_
 refine T_sr fun K14 hK14 => ?_
 simp [aload, partOf, aExtract, frame0, g2, g7, g8, he, b2]
 refine callK.of (checkIs _ H.color (rdAll bs).1 hsm.cells hsm.codes hsm.jobs hsm.ops hsm.addr) ?_
 rintro _ Hz ⟨⟨ca, cb, rfl⟩, hz⟩
 subst Hz
 simp [aload, partOf, aExtract, frame0, g2, g7, g8, he, b2]
 apply hK14
 refine T_sr fun K15 hK15 => ?_
 simp [aBin, aBinV, frame0, g2, g7, g8, he, int_bne]
 apply hK15
 refine T_cond (by first | rfl | exact g2 | exact g7 | exact g8 | exact g2 | exact g7 | exact g8 | exact g2 | exact g7 | exact g8 | exact g2 | exact g7 | exact g8 | exact he) (fun c4 => ?_) (fun c4 => ?_)
 have hno : ¬ DecOk bs := fun h => by
  have h2 := h.2.2.2
  simp [h2] at c4
 refine T_sr fun K16 hK16 => ?_
 simp [aBuild, aBuild.go, splice, astore, frame0, g2, g7, g8, he, b3]
 apply hK16
 refine T_ret ?_
 try simp only [kr]
 have hne : ¬ checkE (rdAll bs).1 = 0 := by simpa using c4
 refine owes_zero (x := 0) (y := checkE (rdAll bs).1) (X := (fun m a e => (e = 0 ↔ DecOk bs) ∧ (e = 0 → m = (rdAll bs).1 ∧ a = 0))) (.inr rfl) hwf ?_ ⟨⟨fun h => absurd h hne, fun h => absurd h hno⟩, fun h => absurd h hne⟩ (.setBox (Nat.le_refl _) hg.ext)
 rw [show Tryz.f11.results.toList = [.cell 2 26, .tmp 3, .tmp 4] from rfl]
 simp [aResults, aload, partOf, put_at, frame0, g2]
 have hok2 : DecOk bs := ⟨hok, he, hge, by simpa using c4⟩
 refine T_skip ?_
 try simp only [kn]
 apply hK13
 refine T_sr fun K17 hK17 => ?_
 simp [aload, partOf, astore, splice, frame0, g2, g7, g8, he, b2, b3]
 apply hK17
 refine T_ret ?_
 try simp only [kr]
 refine owes_dec (m := (rdAll bs).1) (d := 0) (x := 0) (y := 0) (X := (fun m a e => (e = 0 ↔ DecOk bs) ∧ (e = 0 → m = (rdAll bs).1 ∧ a = 0))) (.inr rfl) hwf ?_ ⟨by simp [hok2], fun _ => ⟨rfl, rfl⟩⟩ (.setBox (Nat.le_refl _) hg.ext)
 rw [show Tryz.f11.results.toList = [.cell 2 26, .tmp 3, .tmp 4] from rfl]
 simp [aResults, aload, partOf, put_at, frame0, g2]
 rfl
 have hno : ¬ DecOk bs := fun h => he h.2.1
 refine T_seqk fun K18 hK18 => ?_
 refine T_seqk fun K19 hK19 => ?_
 refine T_draw (fun _ => True) [] (.free 0 (.free 1 (.free 2 (.free 3 (.free 4 (.free 5 (.free 6 (.free 7 (.free 8 (.free 9 (.free 10 (.free 11 (.free 12 (.free 13 (.free 14 (.free 15 (.free 16 .done))))))))))))))))) mix ?_ ?_ ?_
 kernel_rfl
 kernel_rfl
 simp [Keeps, Same, ↓wanted_some, aFieldAddr, aload, partOf, aBin, aBinV, aLen, frame0, g2, g7, g8, he, b1, rrow, int_beq]
 apply hK19
 refine T_cond (by first | rfl | exact g2 | exact g7 | exact g8 | exact g2 | exact g7 | exact g8 | exact g2 | exact g7 | exact g8 | exact g2 | exact g7 | exact g8 | exact he) (fun c5 => ?_) (fun c5 => ?_)
 exact absurd c5 (by simp) --done
 refine T_skip ?_
 try simp only [kn]
 apply hK18
 refine T_seqk fun K20 hK20 => ?_
 refine T_sr fun K21 hK21 => ?_
 simp [aFieldAddr, aload, partOf, aBin, aBinV, frame0, g2, g7, g8, he, b1, rrow, rdRefuse, int_bne]
 apply hK21
 refine T_cond (by first | rfl | exact g2 | exact g7 | exact g8 | exact g2 | exact g7 | exact g8 | exact g2 | exact g7 | exact g8 | exact g2 | exact g7 | exact g8 | exact he) (fun c6 => ?_) (fun c6 => ?_)
 refine T_seqk fun K22 hK22 => ?_
 refine T_draw (fun id => id = H.next + 1) [] (.free 0 (.free 1 (.free 2 (.free 3 (.free 4 (.free 5 (.free 6 (.free 7 (.free 8 (.sole 9 (.free 10 (.free 11 .done)))))))))))) mix ?_ ?_ ?_
 kernel_rfl
 kernel_rfl
 simp [Keeps, Same, aBuild, aBuild.go, splice, aFieldAddr, aload, partOf, astore, frame0, g2, g7, g8, he, b1, b2, b3, rrow, rdRefuse]
 apply hK22
 refine T_ret ?_
 try simp only [kr]
 have hne := he
 refine owes_zero (x := (rdList (body bs) rdJob (rdList (body bs) rdFlat (rdList (body bs) rdCell (rdText (body bs) rs0).2).2).2).2.of) (y := (rdList (body bs) rdJob (rdList (body bs) rdFlat (rdList (body bs) rdCell (rdText (body bs) rs0).2).2).2).2.e) (X := (fun m a e => (e = 0 ↔ DecOk bs) ∧ (e = 0 → m = (rdAll bs).1 ∧ a = 0))) (.inr rfl) hwf ?_ ⟨⟨fun h => absurd h hne, fun h => absurd h hno⟩, fun h => absurd h hne⟩ (.setBox (Nat.le_refl _) hg.ext)
 rw [show Tryz.f11.results.toList = [.cell 2 26, .tmp 3, .tmp 4] from rfl]
 simp [aResults, aload, partOf, put_at, frame0, g2]
 exact absurd c6 (by simp [he]) --done
def DFlat.Small (x : DFlat) : Prop := x.ops.length * 88 ≤ 2 ^ 47 ∧ x.loops.length * 24 ≤ 2 ^ 47
def DJob.Small (x : DJob) : Prop := x.codes.length * 8 ≤ 2 ^ 47 ∧ x.bases.length * 8 ≤ 2 ^ 47
def DImage.Small (x : DImage) : Prop := x.cells.length * 96 ≤ 2 ^ 47 ∧ x.codes.length * 104 ≤ 2 ^ 47 ∧ x.jobs.length * 96 ≤ 2 ^ 47 ∧ (∀ f ∈ x.codes, f.Small) ∧ ∀ j ∈ x.jobs, j.Small
theorem part_irow (x : Int) : partOf Tryz.prog 3 (irow x) 0 = some (pi x) := by simp [partOf, irow]
theorem eqCell' (a b : DCell) (d : Nat) : aEqIn Tryz.prog (d + 3) 44 (.agg a.row) (.agg b.row) = some (decide (a = b)) := by
 simp [aEqIn, Program.fieldsOf, aEqIn.go, partOf, aEqCell, DCell.row, beq_bytes]
 rw [Bool.eq_iff_iff]; cases a; cases b; simp [DVal.ext_iff, and_assoc]
theorem eqCell (a b : DCell) : aEqIn Tryz.prog Op.maxDepth 44 (.agg a.row) (.agg b.row) = some (decide (a = b)) := eqCell' a b 9997
theorem eqOp' (a b : DOp) (d : Nat) : aEqIn Tryz.prog (d + 3) 50 (.agg a.row) (.agg b.row) = some (decide (a = b)) := by
 simp [aEqIn, Program.fieldsOf, aEqIn.go, partOf, aEqCell, DOp.row, beq_bytes]
 rw [Bool.eq_iff_iff]; cases a; cases b; simp [DVal.ext_iff, and_assoc]
theorem eqOp (a b : DOp) : aEqIn Tryz.prog Op.maxDepth 50 (.agg a.row) (.agg b.row) = some (decide (a = b)) := eqOp' a b 9997
theorem eqLoop' (a b : DLoop) (d : Nat) : aEqIn Tryz.prog (d + 3) 52 (.agg a.row) (.agg b.row) = some (decide (a = b)) := by
 simp [aEqIn, Program.fieldsOf, aEqIn.go, partOf, aEqCell, DLoop.row, beq_bytes]
 rw [Bool.eq_iff_iff]; cases a; cases b; simp
theorem eqLoop (a b : DLoop) : aEqIn Tryz.prog Op.maxDepth 52 (.agg a.row) (.agg b.row) = some (decide (a = b)) := eqLoop' a b 9997
@[simp] theorem gd44 : Tryz.prog.eqGuardType Tryz.prog.depth 44 = false := by kernel_rfl
@[simp] theorem gd50 : Tryz.prog.eqGuardType Tryz.prog.depth 50 = false := by kernel_rfl
@[simp] theorem gd52 : Tryz.prog.eqGuardType Tryz.prog.depth 52 = false := by kernel_rfl
theorem part_jobs (c : Nat) (x : DImage) : partOf Tryz.prog 24 (x.row c) 3 = some (PV.sl c 7 (x.jobs.map (DJob.row c))) := by simp [partOf, DImage.row]
theorem eqInts (H : AS) (c d : Nat) (xs ys : List Int) (hx : xs.length < 2 ^ 62) : ACalls Tryz.prog 64 [PV.sl c 1 (xs.map irow), PV.sl d 1 (ys.map irow)] H fun r H' => r = .val (.bool (decide (xs = ys))) ∧ H' = H := by
 refine ACalls_intro Tryz.func64 rfl (by kernel_rfl) (by simp) fun hwf hbel => ?_
 refine T_sr fun K0 hK0 => ?_
 simp [frame0]
 apply hK0
 refine T_seqk fun K1 hK1 => ?_
 refine T_sr fun K2 hK2 => ?_
 simp [aLen, aBin, aBinV, frame0]
 apply hK2
 refine T_cond (rfl) (fun c0 => ?_) (fun c0 => ?_)
 simp at c0
 refine T_sr fun K3 hK3 => ?_
 simp [frame0]
 apply hK3
 refine T_ret ?_
 try simp only [kr]
 refine owes_pure (.inr rfl) hwf rfl ?_ ?_ ?_
 simp [frzVs, frzV, frz]; exact .refl _
 simp [frzVs, frzV, frz]
 simp [frzVs, frzV, frz, packed]
 intro e; subst e; simp at c0
 have hyl : ys.length = xs.length := by simp at c0; omega
 refine T_skip ?_
 try simp only [kn]
 apply hK1
 refine T_seqk fun K4 hK4 => ?_
 refine T_sr fun K5 hK5 => ?_
 simp [aLen, frame0]
 apply hK5
 refine T_block ?_
 refine T_loop (fun k F H' => ∃ i : Nat, k = xs.length - i ∧ i ≤ xs.length ∧ F 0 = PV.sl c 1 (xs.map irow) ∧ F 1 = PV.sl d 1 (ys.map irow) ∧ F 12 = .val (.int .i64 xs.length) ∧ F 13 = .val (.int .i64 i) ∧ H = H' ∧ xs.take i = ys.take i) (xs.length) ?_ ?_
 refine ⟨0, ?_⟩
 simp [frame0]
 rintro k F H' ⟨i, rfl, hi, h0, h1, h12, h13, rfl, htake⟩
 refine T_sr fun K6 hK6 => ?_
 simp [aBin, aBinV, frame0, h0, h1, h12, h13]
 apply hK6
 refine T_seqk fun K7 hK7 => ?_
 refine T_cond (by first | rfl | exact h0 | exact h1 | exact h12 | exact h13) (fun c1 => ?_) (fun c1 => ?_)
 have hlt : i < xs.length := by simpa using c1
 refine T_skip ?_
 try simp only [kn]
 apply hK7
 refine T_seqk fun K8 hK8 => ?_
 refine T_block ?_
 refine T_sr fun K9 hK9 => ?_
 simp [frame0, h0, h1, h12, h13]
 apply hK9
 refine T_seqk fun K10 hK10 => ?_
 refine T_draw (fun _ => True) [] (.free 0 (.free 1 (.free 2 (.free 3 (.free 4 (.free 5 (.free 6 (.free 7 (.free 8 .done))))))))) mix ?_ ?_ ?_
 kernel_rfl
 kernel_rfl
 have hlt' : i < ys.length := by omega
 simp [Keeps, Same, aIndexAddr, aload, aBin, aBinV, frame0, h0, h1, h12, h13, sl_get (map_get (f := irow) hlt), sl_get (map_get (f := irow) hlt'), part_irow]
 apply hK10
 refine T_cond (by first | rfl | exact h0 | exact h1 | exact h12 | exact h13) (fun c2 => ?_) (fun c2 => ?_)
 refine T_sr fun K11 hK11 => ?_
 simp [frame0, h0, h1, h12, h13]
 apply hK11
 refine T_ret ?_
 try simp only [kr]
 refine owes_pure (.inr rfl) hwf rfl ?_ ?_ ?_
 simp [frzVs, frzV, frz]; exact .refl _
 simp [frzVs, frzV, frz]
 simp [frzVs, frzV, frz, packed]
 intro e; subst e; simp at c2
 have heq : xs[i] = ys[i] := by simpa using c2
 refine T_skip ?_
 try simp only [kn]
 apply hK8
 refine T_rg ?_
 simp [aBin, aBinV, frame0, h0, h1, h12, h13]
 refine ⟨xs.length - (i + 1), by omega, i + 1, rfl, by omega, ?_⟩
 simp [h0, h1, h12, h13]
 rw [wrap_i64 (by omega) (by omega)]
 refine ⟨rfl, ?_⟩
 rw [List.take_succ_eq_append_getElem hlt, List.take_succ_eq_append_getElem hlt', htake, heq]
 have hge : xs.length ≤ i := by simpa using c1
 refine T_exit ?_
 try simp only [ke, kn, if_true, if_false, Nat.reduceEqDiff, reduceIte]
 apply hK4
 refine T_sr fun K12 hK12 => ?_
 simp [frame0, h0, h1, h12, h13]
 apply hK12
 refine T_ret ?_
 try simp only [kr]
 refine owes_pure (.inr rfl) hwf rfl ?_ ?_ ?_
 simp [frzVs, frzV, frz]; exact .refl _
 simp [frzVs, frzV, frz]
 simp [frzVs, frzV, frz, packed]
 rw [List.take_of_length_le hge, List.take_of_length_le (by omega)] at htake
 exact htake
theorem eqCells (H : AS) (c d : Nat) (xs ys : List DCell) (hx : xs.length < 2 ^ 62) : ACalls Tryz.prog 29 [PV.sl c 11 (xs.map DCell.row), PV.sl d 11 (ys.map DCell.row)] H fun r H' => r = .val (.bool (decide (xs = ys))) ∧ H' = H := by
 refine ACalls_intro Tryz.func29 rfl (by kernel_rfl) (by simp) fun hwf hbel => ?_
 refine T_sr fun K0 hK0 => ?_
 simp [frame0]
 apply hK0
 refine T_seqk fun K1 hK1 => ?_
 refine T_sr fun K2 hK2 => ?_
 simp [aLen, aBin, aBinV, frame0]
 apply hK2
 refine T_cond (rfl) (fun c0 => ?_) (fun c0 => ?_)
 simp at c0
 refine T_sr fun K3 hK3 => ?_
 simp [frame0]
 apply hK3
 refine T_ret ?_
 try simp only [kr]
 refine owes_pure (.inr rfl) hwf rfl ?_ ?_ ?_
 simp [frzVs, frzV, frz]; exact .refl _
 simp [frzVs, frzV, frz]
 simp [frzVs, frzV, frz, packed]
 intro e; subst e; simp at c0
 have hyl : ys.length = xs.length := by simp at c0; omega
 refine T_skip ?_
 try simp only [kn]
 apply hK1
 refine T_seqk fun K4 hK4 => ?_
 refine T_sr fun K5 hK5 => ?_
 simp [aLen, frame0]
 apply hK5
 refine T_block ?_
 refine T_loop (fun k F H' => ∃ i : Nat, k = xs.length - i ∧ i ≤ xs.length ∧ F 0 = PV.sl c 11 (xs.map DCell.row) ∧ F 1 = PV.sl d 11 (ys.map DCell.row) ∧ F 12 = .val (.int .i64 xs.length) ∧ F 13 = .val (.int .i64 i) ∧ H = H' ∧ xs.take i = ys.take i) (xs.length) ?_ ?_
 refine ⟨0, ?_⟩
 simp [frame0]
 rintro k F H' ⟨i, rfl, hi, h0, h1, h12, h13, rfl, htake⟩
 refine T_sr fun K6 hK6 => ?_
 simp [aBin, aBinV, frame0, h0, h1, h12, h13]
 apply hK6
 refine T_seqk fun K7 hK7 => ?_
 refine T_cond (by first | rfl | exact h0 | exact h1 | exact h12 | exact h13) (fun c1 => ?_) (fun c1 => ?_)
 have hlt : i < xs.length := by simpa using c1
 refine T_skip ?_
 try simp only [kn]
 apply hK7
 refine T_seqk fun K8 hK8 => ?_
 refine T_block ?_
 refine T_sr fun K9 hK9 => ?_
 simp [frame0, h0, h1, h12, h13]
 apply hK9
 refine T_seqk fun K10 hK10 => ?_
 refine T_draw (fun _ => True) [] (.free 0 (.free 1 (.free 2 (.free 3 (.free 4 (.free 5 (.free 6 (.free 7 (.free 8 .done))))))))) mix ?_ ?_ ?_
 kernel_rfl
 kernel_rfl
 have hlt' : i < ys.length := by omega
 simp [Keeps, Same, aIndexAddr, aload, aBin, aBinV, frame0, h0, h1, h12, h13, sl_get (map_get (f := DCell.row) hlt), sl_get (map_get (f := DCell.row) hlt'), part_cell, eqCell]
 apply hK10
 refine T_cond (by first | rfl | exact h0 | exact h1 | exact h12 | exact h13) (fun c2 => ?_) (fun c2 => ?_)
 refine T_sr fun K11 hK11 => ?_
 simp [frame0, h0, h1, h12, h13]
 apply hK11
 refine T_ret ?_
 try simp only [kr]
 refine owes_pure (.inr rfl) hwf rfl ?_ ?_ ?_
 simp [frzVs, frzV, frz]; exact .refl _
 simp [frzVs, frzV, frz]
 simp [frzVs, frzV, frz, packed]
 intro e; subst e; simp at c2
 have heq : xs[i] = ys[i] := by simpa using c2
 refine T_skip ?_
 try simp only [kn]
 apply hK8
 refine T_rg ?_
 simp [aBin, aBinV, frame0, h0, h1, h12, h13]
 refine ⟨xs.length - (i + 1), by omega, i + 1, rfl, by omega, ?_⟩
 simp [h0, h1, h12, h13]
 rw [wrap_i64 (by omega) (by omega)]
 refine ⟨rfl, ?_⟩
 rw [List.take_succ_eq_append_getElem hlt, List.take_succ_eq_append_getElem hlt', htake, heq]
 have hge : xs.length ≤ i := by simpa using c1
 refine T_exit ?_
 try simp only [ke, kn, if_true, if_false, Nat.reduceEqDiff, reduceIte]
 apply hK4
 refine T_sr fun K12 hK12 => ?_
 simp [frame0, h0, h1, h12, h13]
 apply hK12
 refine T_ret ?_
 try simp only [kr]
 refine owes_pure (.inr rfl) hwf rfl ?_ ?_ ?_
 simp [frzVs, frzV, frz]; exact .refl _
 simp [frzVs, frzV, frz]
 simp [frzVs, frzV, frz, packed]
 rw [List.take_of_length_le hge, List.take_of_length_le (by omega)] at htake
 exact htake
theorem eqOps (H : AS) (c d : Nat) (xs ys : List DOp) (hx : xs.length < 2 ^ 62) : ACalls Tryz.prog 87 [PV.sl c 10 (xs.map DOp.row), PV.sl d 10 (ys.map DOp.row)] H fun r H' => r = .val (.bool (decide (xs = ys))) ∧ H' = H := by
 refine ACalls_intro Tryz.func87 rfl (by kernel_rfl) (by simp) fun hwf hbel => ?_
 refine T_sr fun K0 hK0 => ?_
 simp [frame0]
 apply hK0
 refine T_seqk fun K1 hK1 => ?_
 refine T_sr fun K2 hK2 => ?_
 simp [aLen, aBin, aBinV, frame0]
 apply hK2
 refine T_cond (rfl) (fun c0 => ?_) (fun c0 => ?_)
 simp at c0
 refine T_sr fun K3 hK3 => ?_
 simp [frame0]
 apply hK3
 refine T_ret ?_
 try simp only [kr]
 refine owes_pure (.inr rfl) hwf rfl ?_ ?_ ?_
 simp [frzVs, frzV, frz]; exact .refl _
 simp [frzVs, frzV, frz]
 simp [frzVs, frzV, frz, packed]
 intro e; subst e; simp at c0
 have hyl : ys.length = xs.length := by simp at c0; omega
 refine T_skip ?_
 try simp only [kn]
 apply hK1
 refine T_seqk fun K4 hK4 => ?_
 refine T_sr fun K5 hK5 => ?_
 simp [aLen, frame0]
 apply hK5
 refine T_block ?_
 refine T_loop (fun k F H' => ∃ i : Nat, k = xs.length - i ∧ i ≤ xs.length ∧ F 0 = PV.sl c 10 (xs.map DOp.row) ∧ F 1 = PV.sl d 10 (ys.map DOp.row) ∧ F 12 = .val (.int .i64 xs.length) ∧ F 13 = .val (.int .i64 i) ∧ H = H' ∧ xs.take i = ys.take i) (xs.length) ?_ ?_
 refine ⟨0, ?_⟩
 simp [frame0]
 rintro k F H' ⟨i, rfl, hi, h0, h1, h12, h13, rfl, htake⟩
 refine T_sr fun K6 hK6 => ?_
 simp [aBin, aBinV, frame0, h0, h1, h12, h13]
 apply hK6
 refine T_seqk fun K7 hK7 => ?_
 refine T_cond (by first | rfl | exact h0 | exact h1 | exact h12 | exact h13) (fun c1 => ?_) (fun c1 => ?_)
 have hlt : i < xs.length := by simpa using c1
 refine T_skip ?_
 try simp only [kn]
 apply hK7
 refine T_seqk fun K8 hK8 => ?_
 refine T_block ?_
 refine T_sr fun K9 hK9 => ?_
 simp [frame0, h0, h1, h12, h13]
 apply hK9
 refine T_seqk fun K10 hK10 => ?_
 refine T_draw (fun _ => True) [] (.free 0 (.free 1 (.free 2 (.free 3 (.free 4 (.free 5 (.free 6 (.free 7 (.free 8 .done))))))))) mix ?_ ?_ ?_
 kernel_rfl
 kernel_rfl
 have hlt' : i < ys.length := by omega
 simp [Keeps, Same, aIndexAddr, aload, aBin, aBinV, frame0, h0, h1, h12, h13, sl_get (map_get (f := DOp.row) hlt), sl_get (map_get (f := DOp.row) hlt'), part_op, eqOp]
 apply hK10
 refine T_cond (by first | rfl | exact h0 | exact h1 | exact h12 | exact h13) (fun c2 => ?_) (fun c2 => ?_)
 refine T_sr fun K11 hK11 => ?_
 simp [frame0, h0, h1, h12, h13]
 apply hK11
 refine T_ret ?_
 try simp only [kr]
 refine owes_pure (.inr rfl) hwf rfl ?_ ?_ ?_
 simp [frzVs, frzV, frz]; exact .refl _
 simp [frzVs, frzV, frz]
 simp [frzVs, frzV, frz, packed]
 intro e; subst e; simp at c2
 have heq : xs[i] = ys[i] := by simpa using c2
 refine T_skip ?_
 try simp only [kn]
 apply hK8
 refine T_rg ?_
 simp [aBin, aBinV, frame0, h0, h1, h12, h13]
 refine ⟨xs.length - (i + 1), by omega, i + 1, rfl, by omega, ?_⟩
 simp [h0, h1, h12, h13]
 rw [wrap_i64 (by omega) (by omega)]
 refine ⟨rfl, ?_⟩
 rw [List.take_succ_eq_append_getElem hlt, List.take_succ_eq_append_getElem hlt', htake, heq]
 have hge : xs.length ≤ i := by simpa using c1
 refine T_exit ?_
 try simp only [ke, kn, if_true, if_false, Nat.reduceEqDiff, reduceIte]
 apply hK4
 refine T_sr fun K12 hK12 => ?_
 simp [frame0, h0, h1, h12, h13]
 apply hK12
 refine T_ret ?_
 try simp only [kr]
 refine owes_pure (.inr rfl) hwf rfl ?_ ?_ ?_
 simp [frzVs, frzV, frz]; exact .refl _
 simp [frzVs, frzV, frz]
 simp [frzVs, frzV, frz, packed]
 rw [List.take_of_length_le hge, List.take_of_length_le (by omega)] at htake
 exact htake
theorem eqLoops (H : AS) (c d : Nat) (xs ys : List DLoop) (hx : xs.length < 2 ^ 62) : ACalls Tryz.prog 88 [PV.sl c 3 (xs.map DLoop.row), PV.sl d 3 (ys.map DLoop.row)] H fun r H' => r = .val (.bool (decide (xs = ys))) ∧ H' = H := by
 refine ACalls_intro Tryz.func88 rfl (by kernel_rfl) (by simp) fun hwf hbel => ?_
 refine T_sr fun K0 hK0 => ?_
 simp [frame0]
 apply hK0
 refine T_seqk fun K1 hK1 => ?_
 refine T_sr fun K2 hK2 => ?_
 simp [aLen, aBin, aBinV, frame0]
 apply hK2
 refine T_cond (rfl) (fun c0 => ?_) (fun c0 => ?_)
 simp at c0
 refine T_sr fun K3 hK3 => ?_
 simp [frame0]
 apply hK3
 refine T_ret ?_
 try simp only [kr]
 refine owes_pure (.inr rfl) hwf rfl ?_ ?_ ?_
 simp [frzVs, frzV, frz]; exact .refl _
 simp [frzVs, frzV, frz]
 simp [frzVs, frzV, frz, packed]
 intro e; subst e; simp at c0
 have hyl : ys.length = xs.length := by simp at c0; omega
 refine T_skip ?_
 try simp only [kn]
 apply hK1
 refine T_seqk fun K4 hK4 => ?_
 refine T_sr fun K5 hK5 => ?_
 simp [aLen, frame0]
 apply hK5
 refine T_block ?_
 refine T_loop (fun k F H' => ∃ i : Nat, k = xs.length - i ∧ i ≤ xs.length ∧ F 0 = PV.sl c 3 (xs.map DLoop.row) ∧ F 1 = PV.sl d 3 (ys.map DLoop.row) ∧ F 12 = .val (.int .i64 xs.length) ∧ F 13 = .val (.int .i64 i) ∧ H = H' ∧ xs.take i = ys.take i) (xs.length) ?_ ?_
 refine ⟨0, ?_⟩
 simp [frame0]
 rintro k F H' ⟨i, rfl, hi, h0, h1, h12, h13, rfl, htake⟩
 refine T_sr fun K6 hK6 => ?_
 simp [aBin, aBinV, frame0, h0, h1, h12, h13]
 apply hK6
 refine T_seqk fun K7 hK7 => ?_
 refine T_cond (by first | rfl | exact h0 | exact h1 | exact h12 | exact h13) (fun c1 => ?_) (fun c1 => ?_)
 have hlt : i < xs.length := by simpa using c1
 refine T_skip ?_
 try simp only [kn]
 apply hK7
 refine T_seqk fun K8 hK8 => ?_
 refine T_block ?_
 refine T_sr fun K9 hK9 => ?_
 simp [frame0, h0, h1, h12, h13]
 apply hK9
 refine T_seqk fun K10 hK10 => ?_
 refine T_draw (fun _ => True) [] (.free 0 (.free 1 (.free 2 (.free 3 (.free 4 (.free 5 (.free 6 (.free 7 (.free 8 .done))))))))) mix ?_ ?_ ?_
 kernel_rfl
 kernel_rfl
 have hlt' : i < ys.length := by omega
 simp [Keeps, Same, aIndexAddr, aload, aBin, aBinV, frame0, h0, h1, h12, h13, sl_get (map_get (f := DLoop.row) hlt), sl_get (map_get (f := DLoop.row) hlt'), part_loop, eqLoop]
 apply hK10
 refine T_cond (by first | rfl | exact h0 | exact h1 | exact h12 | exact h13) (fun c2 => ?_) (fun c2 => ?_)
 refine T_sr fun K11 hK11 => ?_
 simp [frame0, h0, h1, h12, h13]
 apply hK11
 refine T_ret ?_
 try simp only [kr]
 refine owes_pure (.inr rfl) hwf rfl ?_ ?_ ?_
 simp [frzVs, frzV, frz]; exact .refl _
 simp [frzVs, frzV, frz]
 simp [frzVs, frzV, frz, packed]
 intro e; subst e; simp at c2
 have heq : xs[i] = ys[i] := by simpa using c2
 refine T_skip ?_
 try simp only [kn]
 apply hK8
 refine T_rg ?_
 simp [aBin, aBinV, frame0, h0, h1, h12, h13]
 refine ⟨xs.length - (i + 1), by omega, i + 1, rfl, by omega, ?_⟩
 simp [h0, h1, h12, h13]
 rw [wrap_i64 (by omega) (by omega)]
 refine ⟨rfl, ?_⟩
 rw [List.take_succ_eq_append_getElem hlt, List.take_succ_eq_append_getElem hlt', htake, heq]
 have hge : xs.length ≤ i := by simpa using c1
 refine T_exit ?_
 try simp only [ke, kn, if_true, if_false, Nat.reduceEqDiff, reduceIte]
 apply hK4
 refine T_sr fun K12 hK12 => ?_
 simp [frame0, h0, h1, h12, h13]
 apply hK12
 refine T_ret ?_
 try simp only [kr]
 refine owes_pure (.inr rfl) hwf rfl ?_ ?_ ?_
 simp [frzVs, frzV, frz]; exact .refl _
 simp [frzVs, frzV, frz]
 simp [frzVs, frzV, frz, packed]
 rw [List.take_of_length_le hge, List.take_of_length_le (by omega)] at htake
 exact htake
theorem eqBytes (H : AS) (c d : Nat) (xs ys : List UInt8) (hx : xs.length < 2 ^ 62) : ACalls Tryz.prog 14 [PV.sl c 1 (xs.map brow), PV.sl d 1 (ys.map brow)] H fun r H' => r = .val (.bool (decide (xs = ys))) ∧ H' = H := by
 refine ACalls_intro Tryz.func14 rfl (by kernel_rfl) (by simp) fun hwf hbel => ?_
 refine T_sr fun K0 hK0 => ?_
 simp [frame0]
 apply hK0
 refine T_seqk fun K1 hK1 => ?_
 refine T_sr fun K2 hK2 => ?_
 simp [aLen, aBin, aBinV, frame0]
 apply hK2
 refine T_cond (rfl) (fun c0 => ?_) (fun c0 => ?_)
 simp at c0
 refine T_sr fun K3 hK3 => ?_
 simp [frame0]
 apply hK3
 refine T_ret ?_
 try simp only [kr]
 refine owes_pure (.inr rfl) hwf rfl ?_ ?_ ?_
 simp [frzVs, frzV, frz]; exact .refl _
 simp [frzVs, frzV, frz]
 simp [frzVs, frzV, frz, packed]
 intro e; subst e; simp at c0
 have hyl : ys.length = xs.length := by simp at c0; omega
 refine T_skip ?_
 try simp only [kn]
 apply hK1
 refine T_seqk fun K4 hK4 => ?_
 refine T_sr fun K5 hK5 => ?_
 simp [aLen, frame0]
 apply hK5
 refine T_block ?_
 refine T_loop (fun k F H' => ∃ i : Nat, k = xs.length - i ∧ i ≤ xs.length ∧ F 0 = PV.sl c 1 (xs.map brow) ∧ F 1 = PV.sl d 1 (ys.map brow) ∧ F 12 = .val (.int .i64 xs.length) ∧ F 13 = .val (.int .i64 i) ∧ H = H' ∧ xs.take i = ys.take i) (xs.length) ?_ ?_
 refine ⟨0, ?_⟩
 simp [frame0]
 rintro k F H' ⟨i, rfl, hi, h0, h1, h12, h13, rfl, htake⟩
 refine T_sr fun K6 hK6 => ?_
 simp [aBin, aBinV, frame0, h0, h1, h12, h13]
 apply hK6
 refine T_seqk fun K7 hK7 => ?_
 refine T_cond (by first | rfl | exact h0 | exact h1 | exact h12 | exact h13) (fun c1 => ?_) (fun c1 => ?_)
 have hlt : i < xs.length := by simpa using c1
 refine T_skip ?_
 try simp only [kn]
 apply hK7
 refine T_seqk fun K8 hK8 => ?_
 refine T_block ?_
 refine T_sr fun K9 hK9 => ?_
 simp [frame0, h0, h1, h12, h13]
 apply hK9
 refine T_seqk fun K10 hK10 => ?_
 refine T_draw (fun _ => True) [] (.free 0 (.free 1 (.free 2 (.free 3 (.free 4 (.free 5 (.free 6 (.free 7 (.free 8 .done))))))))) mix ?_ ?_ ?_
 kernel_rfl
 kernel_rfl
 have hlt' : i < ys.length := by omega
 simp [Keeps, Same, aIndexAddr, aload, frame0, h0, h1, h12, h13, sl_get (map_get (f := brow) hlt), sl_get (map_get (f := brow) hlt'), part_byte, bin_neq8]
 apply hK10
 refine T_cond (by first | rfl | exact h0 | exact h1 | exact h12 | exact h13) (fun c2 => ?_) (fun c2 => ?_)
 refine T_sr fun K11 hK11 => ?_
 simp [frame0, h0, h1, h12, h13]
 apply hK11
 refine T_ret ?_
 try simp only [kr]
 refine owes_pure (.inr rfl) hwf rfl ?_ ?_ ?_
 simp [frzVs, frzV, frz]; exact .refl _
 simp [frzVs, frzV, frz]
 simp [frzVs, frzV, frz, packed]
 intro e; subst e; simp at c2
 have heq : xs[i] = ys[i] := by simpa using c2
 refine T_skip ?_
 try simp only [kn]
 apply hK8
 refine T_rg ?_
 simp [aBin, aBinV, frame0, h0, h1, h12, h13]
 refine ⟨xs.length - (i + 1), by omega, i + 1, rfl, by omega, ?_⟩
 simp [h0, h1, h12, h13]
 rw [wrap_i64 (by omega) (by omega)]
 refine ⟨rfl, ?_⟩
 rw [List.take_succ_eq_append_getElem hlt, List.take_succ_eq_append_getElem hlt', htake, heq]
 have hge : xs.length ≤ i := by simpa using c1
 refine T_exit ?_
 try simp only [ke, kn, if_true, if_false, Nat.reduceEqDiff, reduceIte]
 apply hK4
 refine T_sr fun K12 hK12 => ?_
 simp [frame0, h0, h1, h12, h13]
 apply hK12
 refine T_ret ?_
 try simp only [kr]
 refine owes_pure (.inr rfl) hwf rfl ?_ ?_ ?_
 simp [frzVs, frzV, frz]; exact .refl _
 simp [frzVs, frzV, frz]
 simp [frzVs, frzV, frz, packed]
 rw [List.take_of_length_le hge, List.take_of_length_le (by omega)] at htake
 exact htake
theorem sameFlat (H : AS) (c d : Nat) (x y : DFlat) (hb1 : x.ops.length < 2 ^ 62) (hb2 : x.loops.length < 2 ^ 62) : ACalls Tryz.prog 63 [.agg (x.row c), .agg (y.row d)] H fun r H' => r = .val (.bool (decide (x = y))) ∧ H' = H := by
 refine ACalls_intro Tryz.func63 rfl (by kernel_rfl) (by simp) fun hwf hbel => ?_
 refine T_sr fun K0 hK0 => ?_
 simp [abox, frame0]
 apply hK0
 refine T_seqk fun K1 hK1 => ?_
 refine T_sr fun K2 hK2 => ?_
 suffices key : ∀ (F2 : AF) (H2 : AS), F2 2 = .ptr H.next 1 0 0 → F2 3 = .ptr (H.next + 1) 1 0 0 → F2 44 = pb (!decide (x.name = y.name ∧ x.what = y.what ∧ x.cells = y.cells ∧ x.base = y.base ∧ x.regs = y.regs ∧ x.slots = y.slots)) → H2.box H.next = some [x.row c] → H2.box (H.next + 1) = some [y.row d] → H.Ext H2 → K2 F2 H2 by
  by_cases h0 : x.name = y.name
  ·by_cases h1 : x.what = y.what
   ·by_cases h2 : x.cells = y.cells
    ·by_cases h3 : x.base = y.base
     ·by_cases h4 : x.regs = y.regs
      ·by_cases h5 : x.slots = y.slots
       ·simp [aFieldAddr, aload, partOf, aBin, aBinV, frame0, beq_bytes, int_bne, int_beq, DFlat.row, h0, h1, h2, h3, h4, h5]
        refine key _ _ ?_ ?_ ?_ ?_ ?_ ?_
        ·simp
        ·simp
        ·simp [h0, h1, h2, h3, h4, h5]
        ·simp [DFlat.row, h0, h1, h2, h3, h4, h5]
        ·simp [DFlat.row]
        ·exact (by repeat (first | exact AS.Ext.refl _ | refine AS.Ext.kill (by simp) ?_ | refine AS.Ext.bump ?_ | refine AS.Ext.setBox (by simp) ?_))
       ·simp [aFieldAddr, aload, partOf, aBin, aBinV, frame0, beq_bytes, int_bne, int_beq, DFlat.row, h0, h1, h2, h3, h4, h5]
        refine key _ _ ?_ ?_ ?_ ?_ ?_ ?_
        ·simp
        ·simp
        ·simp [h0, h1, h2, h3, h4, h5]
        ·simp [DFlat.row, h0, h1, h2, h3, h4, h5]
        ·simp [DFlat.row]
        ·exact (by repeat (first | exact AS.Ext.refl _ | refine AS.Ext.kill (by simp) ?_ | refine AS.Ext.bump ?_ | refine AS.Ext.setBox (by simp) ?_))
      ·simp [aFieldAddr, aload, partOf, aBin, aBinV, frame0, beq_bytes, int_bne, int_beq, DFlat.row, h0, h1, h2, h3, h4]
       refine key _ _ ?_ ?_ ?_ ?_ ?_ ?_
       ·simp
       ·simp
       ·simp [h0, h1, h2, h3, h4]
       ·simp [DFlat.row, h0, h1, h2, h3, h4]
       ·simp [DFlat.row]
       ·exact (by repeat (first | exact AS.Ext.refl _ | refine AS.Ext.kill (by simp) ?_ | refine AS.Ext.bump ?_ | refine AS.Ext.setBox (by simp) ?_))
     ·simp [aFieldAddr, aload, partOf, aBin, aBinV, frame0, beq_bytes, int_bne, int_beq, DFlat.row, h0, h1, h2, h3]
      refine key _ _ ?_ ?_ ?_ ?_ ?_ ?_
      ·simp
      ·simp
      ·simp [h0, h1, h2, h3]
      ·simp [DFlat.row, h0, h1, h2, h3]
      ·simp [DFlat.row]
      ·exact (by repeat (first | exact AS.Ext.refl _ | refine AS.Ext.kill (by simp) ?_ | refine AS.Ext.bump ?_ | refine AS.Ext.setBox (by simp) ?_))
    ·simp [aFieldAddr, aload, partOf, aBin, aBinV, frame0, beq_bytes, int_bne, int_beq, DFlat.row, h0, h1, h2]
     refine key _ _ ?_ ?_ ?_ ?_ ?_ ?_
     ·simp
     ·simp
     ·simp [h0, h1, h2]
     ·simp [DFlat.row, h0, h1, h2]
     ·simp [DFlat.row]
     ·exact (by repeat (first | exact AS.Ext.refl _ | refine AS.Ext.kill (by simp) ?_ | refine AS.Ext.bump ?_ | refine AS.Ext.setBox (by simp) ?_))
   ·simp [aFieldAddr, aload, partOf, aBin, aBinV, frame0, beq_bytes, int_bne, int_beq, DFlat.row, h0, h1]
    refine key _ _ ?_ ?_ ?_ ?_ ?_ ?_
    ·simp
    ·simp
    ·simp [h0, h1]
    ·simp [DFlat.row, h0, h1]
    ·simp [DFlat.row]
    ·exact (by repeat (first | exact AS.Ext.refl _ | refine AS.Ext.kill (by simp) ?_ | refine AS.Ext.bump ?_ | refine AS.Ext.setBox (by simp) ?_))
  ·simp [aFieldAddr, aload, partOf, aBin, aBinV, frame0, beq_bytes, int_bne, int_beq, DFlat.row, h0]
   refine key _ _ ?_ ?_ ?_ ?_ ?_ ?_
   ·simp
   ·simp
   ·simp [h0]
   ·simp [DFlat.row, h0]
   ·simp [DFlat.row]
   ·exact (by repeat (first | exact AS.Ext.refl _ | refine AS.Ext.kill (by simp) ?_ | refine AS.Ext.bump ?_ | refine AS.Ext.setBox (by simp) ?_))
 intro F2 H2 f2 f3 fl b1 b2 hext
 apply hK2
 refine T_cond (t := !decide (x.name = y.name ∧ x.what = y.what ∧ x.cells = y.cells ∧ x.base = y.base ∧ x.regs = y.regs ∧ x.slots = y.slots)) ?_ (fun c0 => ?_) (fun c0 => ?_)
 simpa using fl
 refine T_sr fun K3 hK3 => ?_
 simp [frame0]
 apply hK3
 refine T_ret ?_
 try simp only [kr]
 have c0 : ¬ (x.name = y.name ∧ x.what = y.what ∧ x.cells = y.cells ∧ x.base = y.base ∧ x.regs = y.regs ∧ x.slots = y.slots) := fun hp => by rw [decide_eq_true hp] at c0; simp at c0
 refine owes_one (.inr rfl) hwf rfl ?_ hext (by simp [Frozen]) (by simp [Below])
 simp [DFlat.ext_iff]
 intros; simp_all
 refine T_skip ?_
 try simp only [kn]
 apply hK1
 refine T_sr fun K4 hK4 => ?_
 suffices key : ∀ (F3 : AF), F3 4 = pb (decide (x.ops = y.ops ∧ x.loops = y.loops)) → K4 F3 H2 by
  by_cases h0 : x.ops = y.ops
  ·by_cases h1 : x.loops = y.loops
   ·simp [aFieldAddr, aload, partOf, frame0, beq_bytes, int_bne, int_beq, DFlat.row, f2, f3, fl, b1, b2]
    refine callK.of (eqOps _ c d x.ops y.ops hb1) ?_
    rintro _ _ ⟨rfl, rfl⟩
    simp [aFieldAddr, aload, partOf, frame0, beq_bytes, int_bne, int_beq, DFlat.row, f2, f3, fl, b1, b2, h0]
    refine callK.of (eqLoops _ c d x.loops y.loops hb2) ?_
    rintro _ _ ⟨rfl, rfl⟩
    simp [aFieldAddr, aload, partOf, frame0, beq_bytes, int_bne, int_beq, DFlat.row, f2, f3, fl, b1, b2, h0, h1]
    exact key _ (by simp [h0, h1])
   ·simp [aFieldAddr, aload, partOf, frame0, beq_bytes, int_bne, int_beq, DFlat.row, f2, f3, fl, b1, b2]
    refine callK.of (eqOps _ c d x.ops y.ops hb1) ?_
    rintro _ _ ⟨rfl, rfl⟩
    simp [aFieldAddr, aload, partOf, frame0, beq_bytes, int_bne, int_beq, DFlat.row, f2, f3, fl, b1, b2, h0]
    refine callK.of (eqLoops _ c d x.loops y.loops hb2) ?_
    rintro _ _ ⟨rfl, rfl⟩
    simp [aFieldAddr, aload, partOf, frame0, beq_bytes, int_bne, int_beq, DFlat.row, f2, f3, fl, b1, b2, h0, h1]
    exact key _ (by simp [h0, h1])
  ·simp [aFieldAddr, aload, partOf, frame0, beq_bytes, int_bne, int_beq, DFlat.row, f2, f3, fl, b1, b2]
   refine callK.of (eqOps _ c d x.ops y.ops hb1) ?_
   rintro _ _ ⟨rfl, rfl⟩
   simp [aFieldAddr, aload, partOf, frame0, beq_bytes, int_bne, int_beq, DFlat.row, f2, f3, fl, b1, b2, h0]
   exact key _ (by simp [h0])
 intro F3 f4
 apply hK4
 refine T_ret ?_
 try simp only [kr]
 refine owes_one (.inr rfl) hwf rfl ?_ hext ?_ ?_
 rw [f4]
 have c0 : x.name = y.name ∧ x.what = y.what ∧ x.cells = y.cells ∧ x.base = y.base ∧ x.regs = y.regs ∧ x.slots = y.slots := Decidable.byContradiction fun hp => by rw [decide_eq_false hp] at c0; simp at c0
 simp [DFlat.ext_iff]
 simp_all
 rw [f4]; simp
 rw [f4]; simp
theorem sameJobP (H : AS) (c d : Nat) (x y : DJob) (hb1 : x.codes.length < 2 ^ 62) (hb2 : x.bases.length < 2 ^ 62) : ACalls Tryz.prog 31 [.agg (x.row c), .agg (y.row d)] H fun r H' => r = .val (.bool (decide (x = y))) ∧ H' = H := by
 refine ACalls_intro Tryz.func31 rfl (by kernel_rfl) (by simp) fun hwf hbel => ?_
 refine T_sr fun K0 hK0 => ?_
 simp [abox, frame0]
 apply hK0
 refine T_sr fun K1 hK1 => ?_
 suffices key : ∀ (F2 : AF) (H2 : AS), F2 4 = pb (decide (x.name = y.name ∧ x.interval = y.interval ∧ x.single = y.single ∧ x.priority = y.priority ∧ x.bound = y.bound ∧ x.codes = y.codes ∧ x.bases = y.bases)) → H.Ext H2 → K1 F2 H2 by
  by_cases h0 : x.name = y.name
  ·by_cases h1 : x.interval = y.interval
   ·by_cases h2 : x.single = y.single
    ·by_cases h3 : x.priority = y.priority
     ·by_cases h4 : x.bound = y.bound
      ·by_cases h5 : x.codes = y.codes
       ·by_cases h6 : x.bases = y.bases
        ·simp [aFieldAddr, aload, partOf, aBin, aBinV, frame0, beq_bytes, int_bne, int_beq, DJob.row, h0, h1, h2, h3, h4]
         refine callK.of (eqInts _ c d x.codes y.codes hb1) ?_
         rintro _ _ ⟨rfl, rfl⟩
         simp [aFieldAddr, aload, partOf, aBin, aBinV, frame0, beq_bytes, int_bne, int_beq, DJob.row, h0, h1, h2, h3, h4, h5]
         refine callK.of (eqInts _ c d x.bases y.bases hb2) ?_
         rintro _ _ ⟨rfl, rfl⟩
         simp [aFieldAddr, aload, partOf, aBin, aBinV, frame0, beq_bytes, int_bne, int_beq, DJob.row, h0, h1, h2, h3, h4, h5, h6]
         exact key _ _ (by simp [h0, h1, h2, h3, h4, h5, h6]) (by repeat (first | exact AS.Ext.refl _ | refine AS.Ext.kill (by simp) ?_ | refine AS.Ext.bump ?_ | refine AS.Ext.setBox (by simp) ?_))
        ·simp [aFieldAddr, aload, partOf, aBin, aBinV, frame0, beq_bytes, int_bne, int_beq, DJob.row, h0, h1, h2, h3, h4]
         refine callK.of (eqInts _ c d x.codes y.codes hb1) ?_
         rintro _ _ ⟨rfl, rfl⟩
         simp [aFieldAddr, aload, partOf, aBin, aBinV, frame0, beq_bytes, int_bne, int_beq, DJob.row, h0, h1, h2, h3, h4, h5]
         refine callK.of (eqInts _ c d x.bases y.bases hb2) ?_
         rintro _ _ ⟨rfl, rfl⟩
         simp [aFieldAddr, aload, partOf, aBin, aBinV, frame0, beq_bytes, int_bne, int_beq, DJob.row, h0, h1, h2, h3, h4, h5, h6]
         exact key _ _ (by simp [h0, h1, h2, h3, h4, h5, h6]) (by repeat (first | exact AS.Ext.refl _ | refine AS.Ext.kill (by simp) ?_ | refine AS.Ext.bump ?_ | refine AS.Ext.setBox (by simp) ?_))
       ·simp [aFieldAddr, aload, partOf, aBin, aBinV, frame0, beq_bytes, int_bne, int_beq, DJob.row, h0, h1, h2, h3, h4]
        refine callK.of (eqInts _ c d x.codes y.codes hb1) ?_
        rintro _ _ ⟨rfl, rfl⟩
        simp [aFieldAddr, aload, partOf, aBin, aBinV, frame0, beq_bytes, int_bne, int_beq, DJob.row, h0, h1, h2, h3, h4, h5]
        exact key _ _ (by simp [h0, h1, h2, h3, h4, h5]) (by repeat (first | exact AS.Ext.refl _ | refine AS.Ext.kill (by simp) ?_ | refine AS.Ext.bump ?_ | refine AS.Ext.setBox (by simp) ?_))
      ·simp [aFieldAddr, aload, partOf, aBin, aBinV, frame0, beq_bytes, int_bne, int_beq, DJob.row, h0, h1, h2, h3, h4]
       exact key _ _ (by simp [h0, h1, h2, h3, h4]) (by repeat (first | exact AS.Ext.refl _ | refine AS.Ext.kill (by simp) ?_ | refine AS.Ext.bump ?_ | refine AS.Ext.setBox (by simp) ?_))
     ·simp [aFieldAddr, aload, partOf, aBin, aBinV, frame0, beq_bytes, int_bne, int_beq, DJob.row, h0, h1, h2, h3]
      exact key _ _ (by simp [h0, h1, h2, h3]) (by repeat (first | exact AS.Ext.refl _ | refine AS.Ext.kill (by simp) ?_ | refine AS.Ext.bump ?_ | refine AS.Ext.setBox (by simp) ?_))
    ·simp [aFieldAddr, aload, partOf, aBin, aBinV, frame0, beq_bytes, int_bne, int_beq, DJob.row, h0, h1, h2]
     exact key _ _ (by simp [h0, h1, h2]) (by repeat (first | exact AS.Ext.refl _ | refine AS.Ext.kill (by simp) ?_ | refine AS.Ext.bump ?_ | refine AS.Ext.setBox (by simp) ?_))
   ·simp [aFieldAddr, aload, partOf, aBin, aBinV, frame0, beq_bytes, int_bne, int_beq, DJob.row, h0, h1]
    exact key _ _ (by simp [h0, h1]) (by repeat (first | exact AS.Ext.refl _ | refine AS.Ext.kill (by simp) ?_ | refine AS.Ext.bump ?_ | refine AS.Ext.setBox (by simp) ?_))
  ·simp [aFieldAddr, aload, partOf, aBin, aBinV, frame0, beq_bytes, int_bne, int_beq, DJob.row, h0]
   exact key _ _ (by simp [h0]) (by repeat (first | exact AS.Ext.refl _ | refine AS.Ext.kill (by simp) ?_ | refine AS.Ext.bump ?_ | refine AS.Ext.setBox (by simp) ?_))
 intro F2 H2 f4 hext
 apply hK1
 refine T_ret ?_
 try simp only [kr]
 refine owes_one (.inr rfl) hwf rfl ?_ hext ?_ ?_
 rw [f4]
 exact congrArg (fun b => PV.val (.bool b)) (decide_eq_decide.mpr ⟨fun h => by rw [DJob.ext_iff]; simp_all, fun h => by subst h; simp⟩)
 rw [f4]; simp
 rw [f4]; simp
theorem sameFlats (H : AS) (c d : Nat) (xs ys : List DFlat) (hx : xs.length < 2 ^ 62) (hs : ∀ x ∈ xs, x.Small) : ACalls Tryz.prog 30 [PV.sl c 8 (xs.map (DFlat.row c)), PV.sl d 8 (ys.map (DFlat.row d))] H fun r H' => r = .val (.bool (decide (xs = ys))) ∧ H' = H := by
 refine ACalls_intro Tryz.func30 rfl (by kernel_rfl) (by simp) fun hwf hbel => ?_
 refine T_sr fun K0 hK0 => ?_
 simp [frame0]
 apply hK0
 refine T_seqk fun K1 hK1 => ?_
 refine T_sr fun K2 hK2 => ?_
 simp [aLen, aBin, aBinV, frame0]
 apply hK2
 refine T_cond (rfl) (fun c0 => ?_) (fun c0 => ?_)
 simp at c0
 refine T_sr fun K3 hK3 => ?_
 simp [frame0]
 apply hK3
 refine T_ret ?_
 try simp only [kr]
 refine owes_pure (.inr rfl) hwf rfl ?_ ?_ ?_
 simp [frzVs, frzV, frz]; exact .refl _
 simp [frzVs, frzV, frz]
 simp [frzVs, frzV, frz, packed]
 intro e; subst e; simp at c0
 have hyl : ys.length = xs.length := by simp at c0; omega
 refine T_skip ?_
 try simp only [kn]
 apply hK1
 refine T_seqk fun K4 hK4 => ?_
 refine T_sr fun K5 hK5 => ?_
 simp [aLen, frame0]
 apply hK5
 refine T_block ?_
 refine T_loop (fun k F H' => ∃ i : Nat, k = xs.length - i ∧ i ≤ xs.length ∧ F 0 = PV.sl c 8 (xs.map (DFlat.row c)) ∧ F 1 = PV.sl d 8 (ys.map (DFlat.row d)) ∧ F 12 = .val (.int .i64 xs.length) ∧ F 13 = .val (.int .i64 i) ∧ H = H' ∧ xs.take i = ys.take i) (xs.length) ?_ ?_
 refine ⟨0, ?_⟩
 simp [frame0]
 rintro k F H' ⟨i, rfl, hi, h0, h1, h12, h13, rfl, htake⟩
 refine T_sr fun K6 hK6 => ?_
 simp [aBin, aBinV, frame0, h0, h1, h12, h13]
 apply hK6
 refine T_seqk fun K7 hK7 => ?_
 refine T_cond (by first | rfl | exact h0 | exact h1 | exact h12 | exact h13) (fun c1 => ?_) (fun c1 => ?_)
 have hlt : i < xs.length := by simpa using c1
 refine T_skip ?_
 try simp only [kn]
 apply hK7
 refine T_seqk fun K8 hK8 => ?_
 refine T_block ?_
 refine T_sr fun K9 hK9 => ?_
 simp [frame0, h0, h1, h12, h13]
 apply hK9
 refine T_seqk fun K10 hK10 => ?_
 refine T_draw (fun _ => True) [] (.free 0 (.free 1 (.free 2 (.free 3 (.free 4 (.free 5 (.free 6 (.free 7 (.free 8 (.free 9 .done)))))))))) mix ?_ ?_ ?_
 kernel_rfl
 kernel_rfl
 have hlt' : i < ys.length := by omega
 simp [Keeps, Same, aIndexAddr, aload, aUn, frame0, h0, h1, h12, h13, sl_get (map_get (f := DFlat.row c) hlt), sl_get (map_get (f := DFlat.row d) hlt'), part_flat]
 refine askK.of _ ?_ (fun H' hS => sameFlat H' c d xs[i] ys[i] (by have := (hs _ (List.getElem_mem hlt)).1; omega) (by have := (hs _ (List.getElem_mem hlt)).2; omega)) ?_
 intro H' hS; first | rfl | (rw [hS.2])
 simp [Keeps, Same, aIndexAddr, aload, aUn, frame0, h0, h1, h12, h13, sl_get (map_get (f := DFlat.row c) hlt), sl_get (map_get (f := DFlat.row d) hlt'), part_flat]
 apply hK10
 refine T_cond (by first | rfl | exact h0 | exact h1 | exact h12 | exact h13) (fun c2 => ?_) (fun c2 => ?_)
 refine T_sr fun K11 hK11 => ?_
 simp [frame0, h0, h1, h12, h13]
 apply hK11
 refine T_ret ?_
 try simp only [kr]
 refine owes_pure (.inr rfl) hwf rfl ?_ ?_ ?_
 simp [frzVs, frzV, frz]; exact .refl _
 simp [frzVs, frzV, frz]
 simp [frzVs, frzV, frz, packed]
 intro e; subst e; simp at c2
 have heq : xs[i] = ys[i] := by simpa using c2
 refine T_skip ?_
 try simp only [kn]
 apply hK8
 refine T_rg ?_
 simp [aBin, aBinV, frame0, h0, h1, h12, h13]
 refine ⟨xs.length - (i + 1), by omega, i + 1, rfl, by omega, ?_⟩
 simp [h0, h1, h12, h13]
 rw [wrap_i64 (by omega) (by omega)]
 refine ⟨rfl, ?_⟩
 rw [List.take_succ_eq_append_getElem hlt, List.take_succ_eq_append_getElem hlt', htake, heq]
 have hge : xs.length ≤ i := by simpa using c1
 refine T_exit ?_
 try simp only [ke, kn, if_true, if_false, Nat.reduceEqDiff, reduceIte]
 apply hK4
 refine T_sr fun K12 hK12 => ?_
 simp [frame0, h0, h1, h12, h13]
 apply hK12
 refine T_ret ?_
 try simp only [kr]
 refine owes_pure (.inr rfl) hwf rfl ?_ ?_ ?_
 simp [frzVs, frzV, frz]; exact .refl _
 simp [frzVs, frzV, frz]
 simp [frzVs, frzV, frz, packed]
 rw [List.take_of_length_le hge, List.take_of_length_le (by omega)] at htake
 exact htake
theorem sameImageP (H : AS) (c d : Nat) (x y : DImage) (hx : x.Small) : ACalls Tryz.prog 12 [.agg (x.row c), .agg (y.row d)] H fun r H' => r = .val (.bool (decide (x = y))) ∧ H' = H := by
 refine ACalls_intro Tryz.func12 rfl (by kernel_rfl) (by simp) fun hwf hbel => ?_
 obtain ⟨hx1, hx2, hx3, hx4, hx5⟩ := hx
 refine T_sr fun K0 hK0 => ?_
 simp [abox, frame0]
 apply hK0
 refine T_seqk fun K1 hK1 => ?_
 refine T_sr fun K2 hK2 => ?_
 suffices key : ∀ (F2 : AF) (H2 : AS), F2 2 = .ptr H.next 1 0 0 → F2 3 = .ptr (H.next + 1) 1 0 0 → F2 35 = pb (!decide (x.name = y.name ∧ x.cells = y.cells ∧ x.codes = y.codes ∧ x.jobs.length = y.jobs.length)) → H2.box H.next = some [x.row c] → H2.box (H.next + 1) = some [y.row d] → H.Ext H2 → K2 F2 H2 by
  by_cases h0 : x.name = y.name
  ·by_cases h1 : x.cells = y.cells
   ·by_cases h2 : x.codes = y.codes
    ·by_cases h3 : x.jobs.length = y.jobs.length
     ·simp [aFieldAddr, aload, partOf, aBin, aBinV, aUn, aLen, frame0, beq_bytes, int_bne, int_beq, DImage.row, Int.natCast_inj, Int.ofNat_inj, h0]
      refine callK.of (eqCells _ c d x.cells y.cells (by omega)) ?_
      rintro _ _ ⟨rfl, rfl⟩
      simp [aFieldAddr, aload, partOf, aBin, aBinV, aUn, aLen, frame0, beq_bytes, int_bne, int_beq, DImage.row, Int.natCast_inj, Int.ofNat_inj, h0, h1]
      refine callK.of (sameFlats _ c d x.codes y.codes (by omega) hx4) ?_
      rintro _ _ ⟨rfl, rfl⟩
      simp [aFieldAddr, aload, partOf, aBin, aBinV, aUn, aLen, frame0, beq_bytes, int_bne, int_beq, DImage.row, Int.natCast_inj, Int.ofNat_inj, h0, h1, h2, h3]
      refine key _ _ ?_ ?_ ?_ ?_ ?_ ?_
      ·simp
      ·simp
      ·simp [h0, h1, h2, h3]
      ·simp [DImage.row, h0, h1, h2, h3]
      ·simp [DImage.row]
      ·exact (by repeat (first | exact AS.Ext.refl _ | refine AS.Ext.kill (by simp) ?_ | refine AS.Ext.bump ?_ | refine AS.Ext.setBox (by simp) ?_))
     ·simp [aFieldAddr, aload, partOf, aBin, aBinV, aUn, aLen, frame0, beq_bytes, int_bne, int_beq, DImage.row, Int.natCast_inj, Int.ofNat_inj, h0]
      refine callK.of (eqCells _ c d x.cells y.cells (by omega)) ?_
      rintro _ _ ⟨rfl, rfl⟩
      simp [aFieldAddr, aload, partOf, aBin, aBinV, aUn, aLen, frame0, beq_bytes, int_bne, int_beq, DImage.row, Int.natCast_inj, Int.ofNat_inj, h0, h1]
      refine callK.of (sameFlats _ c d x.codes y.codes (by omega) hx4) ?_
      rintro _ _ ⟨rfl, rfl⟩
      simp [aFieldAddr, aload, partOf, aBin, aBinV, aUn, aLen, frame0, beq_bytes, int_bne, int_beq, DImage.row, Int.natCast_inj, Int.ofNat_inj, h0, h1, h2, h3]
      refine key _ _ ?_ ?_ ?_ ?_ ?_ ?_
      ·simp
      ·simp
      ·simp [h0, h1, h2, h3]
      ·simp [DImage.row, h0, h1, h2, h3]
      ·simp [DImage.row]
      ·exact (by repeat (first | exact AS.Ext.refl _ | refine AS.Ext.kill (by simp) ?_ | refine AS.Ext.bump ?_ | refine AS.Ext.setBox (by simp) ?_))
    ·simp [aFieldAddr, aload, partOf, aBin, aBinV, aUn, aLen, frame0, beq_bytes, int_bne, int_beq, DImage.row, Int.natCast_inj, Int.ofNat_inj, h0]
     refine callK.of (eqCells _ c d x.cells y.cells (by omega)) ?_
     rintro _ _ ⟨rfl, rfl⟩
     simp [aFieldAddr, aload, partOf, aBin, aBinV, aUn, aLen, frame0, beq_bytes, int_bne, int_beq, DImage.row, Int.natCast_inj, Int.ofNat_inj, h0, h1]
     refine callK.of (sameFlats _ c d x.codes y.codes (by omega) hx4) ?_
     rintro _ _ ⟨rfl, rfl⟩
     simp [aFieldAddr, aload, partOf, aBin, aBinV, aUn, aLen, frame0, beq_bytes, int_bne, int_beq, DImage.row, Int.natCast_inj, Int.ofNat_inj, h0, h1, h2]
     refine key _ _ ?_ ?_ ?_ ?_ ?_ ?_
     ·simp
     ·simp
     ·simp [h0, h1, h2]
     ·simp [DImage.row, h0, h1, h2]
     ·simp [DImage.row]
     ·exact (by repeat (first | exact AS.Ext.refl _ | refine AS.Ext.kill (by simp) ?_ | refine AS.Ext.bump ?_ | refine AS.Ext.setBox (by simp) ?_))
   ·simp [aFieldAddr, aload, partOf, aBin, aBinV, aUn, aLen, frame0, beq_bytes, int_bne, int_beq, DImage.row, Int.natCast_inj, Int.ofNat_inj, h0]
    refine callK.of (eqCells _ c d x.cells y.cells (by omega)) ?_
    rintro _ _ ⟨rfl, rfl⟩
    simp [aFieldAddr, aload, partOf, aBin, aBinV, aUn, aLen, frame0, beq_bytes, int_bne, int_beq, DImage.row, Int.natCast_inj, Int.ofNat_inj, h0, h1]
    refine key _ _ ?_ ?_ ?_ ?_ ?_ ?_
    ·simp
    ·simp
    ·simp [h0, h1]
    ·simp [DImage.row, h0, h1]
    ·simp [DImage.row]
    ·exact (by repeat (first | exact AS.Ext.refl _ | refine AS.Ext.kill (by simp) ?_ | refine AS.Ext.bump ?_ | refine AS.Ext.setBox (by simp) ?_))
  ·simp [aFieldAddr, aload, partOf, aBin, aBinV, aUn, aLen, frame0, beq_bytes, int_bne, int_beq, DImage.row, Int.natCast_inj, Int.ofNat_inj, h0]
   refine key _ _ ?_ ?_ ?_ ?_ ?_ ?_
   ·simp
   ·simp
   ·simp [h0]
   ·simp [DImage.row, h0]
   ·simp [DImage.row]
   ·exact (by repeat (first | exact AS.Ext.refl _ | refine AS.Ext.kill (by simp) ?_ | refine AS.Ext.bump ?_ | refine AS.Ext.setBox (by simp) ?_))
 intro F2 H2 f2 f3 fl b1 b2 hext
 apply hK2
 refine T_cond (t := !decide (x.name = y.name ∧ x.cells = y.cells ∧ x.codes = y.codes ∧ x.jobs.length = y.jobs.length)) ?_ (fun c0 => ?_) (fun c0 => ?_)
 simpa using fl
 refine T_sr fun K3 hK3 => ?_
 simp [frame0]
 apply hK3
 refine T_ret ?_
 try simp only [kr]
 have c0 : ¬ (x.name = y.name ∧ x.cells = y.cells ∧ x.codes = y.codes ∧ x.jobs.length = y.jobs.length) := fun hp => by rw [decide_eq_true hp] at c0; simp at c0
 refine owes_one (.inr rfl) hwf rfl ?_ hext (by simp) (by simp)
 simp
 intro e; subst e; simp at c0
 have c0 : x.name = y.name ∧ x.cells = y.cells ∧ x.codes = y.codes ∧ x.jobs.length = y.jobs.length := Decidable.byContradiction fun hp => by rw [decide_eq_false hp] at c0; simp at c0
 refine T_skip ?_
 try simp only [kn]
 apply hK1
 refine T_seqk fun K4 hK4 => ?_
 refine T_sr fun K5 hK5 => ?_
 simp [aFieldAddr, aload, partOf, aLen, frame0, f2, f3, b1, b2, DImage.row]
 apply hK5
 refine T_block ?_
 refine T_loop (fun k F H' => ∃ i : Nat, k = x.jobs.length - i ∧ i ≤ x.jobs.length ∧ F 2 = .ptr H.next 1 0 0 ∧ F 3 = .ptr (H.next + 1) 1 0 0 ∧ F 38 = pi x.jobs.length ∧ F 39 = pi i ∧ H2 = H' ∧ x.jobs.take i = y.jobs.take i) (x.jobs.length) ?_ ?_
 refine ⟨0, ?_⟩
 simp [f2, f3]
 rintro k F H' ⟨i, rfl, hi, h2, h3, h38, h39, rfl, htake⟩
 refine T_sr fun K6 hK6 => ?_
 simp [aBin, aBinV, frame0, h2, h3, h38, h39]
 apply hK6
 refine T_seqk fun K7 hK7 => ?_
 refine T_cond (by first | rfl | exact h2 | exact h3 | exact h38 | exact h39) (fun c1 => ?_) (fun c1 => ?_)
 have hlt : i < x.jobs.length := by simpa using c1
 refine T_skip ?_
 try simp only [kn]
 apply hK7
 refine T_seqk fun K8 hK8 => ?_
 refine T_block ?_
 refine T_sr fun K9 hK9 => ?_
 simp [frame0, h2, h3, h38, h39]
 apply hK9
 refine T_seqk fun K10 hK10 => ?_
 refine T_draw (fun id => id = H.next ∨ id = H.next + 1) [] (.free 0 (.free 1 (.free 2 (.free 3 (.free 4 (.free 5 (.free 6 (.free 7 (.free 8 (.free 9 (.free 10 (.free 11 .done)))))))))))) mix ?_ ?_ ?_
 kernel_rfl
 kernel_rfl
 have hlt' : i < y.jobs.length := by omega
 simp [Keeps, Same, aFieldAddr, aload, aIndexAddr, aUn, frame0, h2, h3, h38, h39, b1, b2, part_jobs, sl_get (map_get (f := DJob.row c) hlt), sl_get (map_get (f := DJob.row d) hlt'), part_job]
 refine askK.of _ ?_ (fun H' hS => sameJobP H' c d x.jobs[i] y.jobs[i] (by have := (hx5 _ (List.getElem_mem hlt)).1; omega) (by have := (hx5 _ (List.getElem_mem hlt)).2; omega)) ?_
 intro H' hS; first | rfl | (rw [hS.2])
 simp [Keeps, Same, aFieldAddr, aload, aIndexAddr, aUn, frame0, h2, h3, h38, h39, b1, b2, part_jobs, sl_get (map_get (f := DJob.row c) hlt), sl_get (map_get (f := DJob.row d) hlt'), part_job]
 apply hK10
 refine T_cond (by first | rfl | exact h2 | exact h3 | exact h38 | exact h39) (fun c2 => ?_) (fun c2 => ?_)
 refine T_sr fun K11 hK11 => ?_
 simp [frame0, h2, h3, h38, h39]
 apply hK11
 refine T_ret ?_
 try simp only [kr]
 refine owes_one (.inr rfl) hwf rfl ?_ hext (by simp) (by simp)
 simp
 intro e; subst e; simp at c2
 have heq : x.jobs[i] = y.jobs[i] := by simpa using c2
 refine T_skip ?_
 try simp only [kn]
 apply hK8
 refine T_rg ?_
 simp [aBin, aBinV, frame0, h2, h3, h38, h39]
 refine ⟨x.jobs.length - (i + 1), by omega, i + 1, rfl, by omega, ?_⟩
 simp [h2, h3, h38, h39]
 rw [wrap_i64 (by omega) (by omega)]
 refine ⟨rfl, ?_⟩
 rw [List.take_succ_eq_append_getElem hlt, List.take_succ_eq_append_getElem hlt', htake, heq]
 have hge : x.jobs.length ≤ i := by simpa using c1
 refine T_exit ?_
 try simp only [ke, kn, if_true, if_false, Nat.reduceEqDiff, reduceIte]
 apply hK4
 refine T_sr fun K12 hK12 => ?_
 simp [frame0, h2, h3, h38, h39]
 apply hK12
 refine T_ret ?_
 try simp only [kr]
 refine owes_one (.inr rfl) hwf rfl ?_ hext (by simp) (by simp)
 simp
 rw [List.take_of_length_le hge, List.take_of_length_le (by omega)] at htake
 exact DImage.ext c0.1 c0.2.1 c0.2.2.1 htake
structure DCell.Typed (c : DCell) : Prop where
 kind : ok8 c.kind
 lo : ok64 c.lo
 hi : ok64 c.hi
 max : ok64 c.max
 init : c.init.Ok
 dir : ok64 c.dir
 addr : okText c.addr
structure DImage.Typed (m : DImage) : Prop where
 name : okText m.name
 ncells : m.cells.length < 2 ^ 62
 cells : ∀ c ∈ m.cells, c.Typed
 ncodes : m.codes.length < 2 ^ 62
 codes : ∀ f ∈ m.codes, f.Ok
 njobs : m.jobs.length < 2 ^ 62
 jobs : ∀ j ∈ m.jobs, j.Ok
theorem DImage.Typed.ok {m : DImage} (h : m.Typed) (hc : checkE m = 0) : m.Ok := by
 obtain ⟨_, _, _, _, hcell, _, _⟩ := check_ok hc
 refine ⟨h.name, by have := h.ncells; omega, fun c hm => ?_, by have := h.ncodes; omega, h.codes, by have := h.njobs; omega, h.jobs⟩
 have ht := h.cells c hm
 obtain ⟨i, hi, rfl⟩ := nth_of_mem hm
 have hE := hcell i hi
 have hB : cellB (nth m.cells (i : Int)) (addrs m i) = true := by
  unfold cellE at hE
  by_cases e : cellB (nth m.cells (i : Int)) (addrs m i) = true
  ·exact e
  ·rw [if_neg e] at hE; cases hE
 obtain ⟨_, _, d0, d2⟩ := cellB_ok hB
 exact ⟨ht.kind, ht.lo, ht.hi, ht.max, ht.init, ⟨d0, by omega⟩, ht.addr⟩
theorem encFile_length (m : DImage) : (encFile m).length = (encImage m).length + 4 := by
 unfold encFile; rw [List.length_append, le4_length]
theorem encImage_len (m : DImage) : (encImage m).length = 4 + (encBody m).length := by
 rw [encImage_body, List.length_append]; rfl
theorem body_app {a s : List UInt8} (h : s.length = 4) : body (a ++ s) = a := by
 unfold body
 rw [List.length_append, h, show a.length + 4 - 4 = a.length by omega, List.take_left']
 rfl
theorem body_file (m : DImage) : body (encFile m) = encImage m := body_app (le4_length _)
theorem encBody_pos (m : DImage) : 8 ≤ (encBody m).length := by
 unfold encBody; simp only [List.length_append, encText_len']; omega
theorem rdAll_of {b : List UInt8} {m : DImage} (hb : body b = encImage m) (hok : m.Ok) : rdAll b = (m, { rs0 with at' := (encImage m).length }) := by
 unfold rdAll
 rw [hb]
 have hh : Has (encImage m) rs0.at' (encBody m) := by
  have h1 : Has (encImage m) 0 ([114, 108, 121, 1] ++ encBody m) := by rw [← encImage_body]; exact Has.whole
  exact (Has.app.1 h1).2
 rw [law_image.full (encImage m) rs0 m rfl hok hh, encImage_len]
 rfl
theorem encFile_dec {m : DImage} (hok : m.Ok) (hc : checkE m = 0) (hl : (encFile m).length ≤ 4194304) : DecOk (encFile m) ∧ (rdAll (encFile m)).1 = m := by
 have hr := rdAll_of (body_file m) hok
 have h8 := encBody_pos m
 have hlen := encImage_len m
 have hlen2 := encFile_length m
 refine ⟨⟨⟨hl, by omega, ?_, ?_⟩, ?_, ?_, ?_⟩, by rw [hr]⟩
 unfold encFile; rw [encImage_body]; rfl
 have e : (encFile m).length - 4 = (encImage m).length := by omega
 rw [e]
 unfold encFile
 rw [List.drop_left' rfl, List.take_left' rfl]
 rw [hr]; rfl
 rw [hr, body_file]
 rw [hr]; exact hc
def imgM : DImage := ⟨⟨#[77]⟩, [], [], []⟩
theorem checkM : checkE imgM = 0 := by decide +kernel
theorem lenM : (encFile imgM).length = 41 := by
 unfold encFile; rw [List.length_append, le4_length, encImage_length]; rfl
theorem encE_M : encE imgM = 0 := by unfold encE; rw [if_pos checkM, if_neg (by rw [lenM]; decide)]
theorem encB_M : encB imgM = encFile imgM := by unfold encB; rw [if_pos checkM, if_neg (by rw [lenM]; decide)]
theorem getM0 : (encFile imgM)[0]? = some 114 := by
 unfold encFile; rw [List.getElem?_append_left (by rw [encImage_length]; decide)]; decide +kernel
theorem getM12 : (encFile imgM)[12]? = some 77 := by
 unfold encFile; rw [List.getElem?_append_left (by rw [encImage_length]; decide)]; decide +kernel
theorem rowM (c : Nat) : imgM.row c = [ps ⟨#[77]⟩, .nilS, .nilS, .nilS] := rfl
theorem encodeM (H : AS) : ACalls Tryz.prog 8 [.agg [ps ⟨#[77]⟩, .nil, .nil, .nil]] H fun q H' => q = .tuple [PV.sl H.color 1 ((encFile imgM).map brow), pi 0] ∧ H' = H := by
 have h := encodeIs H 0 imgM (by decide) (by decide) (by decide) (fun f hf => by cases hf) (fun x hx => by cases hx)
 rw [encE_M, encB_M] at h
 refine h.of_nil fun G vs hall => ?_
 cases vs with
 | nil => exact hall.elim
 | cons v vs =>
  refine ⟨?_, hall.2⟩
  obtain ⟨h1, -⟩ := hall
  cases h1 with
  | @agg _ us hl ho hx =>
   rw [rowM]
   refine .agg hl ho fun j p u hp hu => ?_
   match j with
   | 0 => exact hx 0 _ _ (by simpa using hp) hu
   | 1 => simp at hp; subst hp; exact rep_nilS (c := 0) (sz := 11) (hx 1 _ _ rfl hu)
   | 2 => simp at hp; subst hp; exact rep_nilS (c := 0) (sz := 11) (hx 2 _ _ rfl hu)
   | 3 => simp at hp; subst hp; exact rep_nilS (c := 0) (sz := 11) (hx 3 _ _ rfl hu)
   | j + 4 => simp at hp
theorem sl_at {d : Nat} {l : List UInt8} {b : UInt8} {n : Int} {i : Nat} (hn : n = i) (h : l[i]? = some b) : aindex 1 (PV.sl d 1 (l.map brow)) n = some (.rptr d (brow b)) := by
 subst hn
 exact sl_get (i := i) (by simp [h])
theorem bin_eq8 (P : Program) (t : TypeId) (a b : UInt8) : aBin P .eql t (b8 a) (b8 b) = some (pb (decide (a = b))) := by
 show (aBinV .eql (.int .u8 a.toNat) (.int .u8 b.toNat)).map PV.val = _
 simp only [aBinV, Option.map_some, int_beq, Option.some.injEq, if_true]
 by_cases e : a = b
 simp [e]
 have : ¬ a.toNat = b.toNat := fun h => e (UInt8.toNat_inj.1 h)
 have h2 : ¬ (a.toNat : Int) = (b.toNat : Int) := by omega
 simp [e, h2]
theorem eqM0 : aBin Tryz.prog .eql 5 (b8 114) (.val (.int .u8 114)) = some (pb true) := bin_eq8 _ _ 114 114
theorem eqM12 : aBin Tryz.prog .eql 5 (b8 77) (.val (.int .u8 77)) = some (pb true) := bin_eq8 _ _ 77 77
theorem eqI (t : TypeId) (a b : Int) : aBin Tryz.prog .eql t (pi a) (pi b) = some (pb (decide (a = b))) := by simp [aBin, aBinV, int_beq]
theorem awakeIs (H : AS)  : ACalls Tryz.prog 9 [] H fun q H' => q = pb true ∧ H' = H := by
 refine ACalls_intro Tryz.func9 rfl (by kernel_rfl) (by simp) fun hwf hbel => ?_
 refine T_sr fun K0 hK0 => ?_
 simp [frame0]
 apply hK0
 refine T_sr fun K1 hK1 => ?_
 simp [aBuild, aBuild.go, splice, aExtract, frame0]
 refine callK.of (encodeM _) ?_
 rintro _ Hz ⟨rfl, hz⟩
 subst Hz
 simp [aBuild, aBuild.go, splice, aExtract, frame0]
 apply hK1
 refine T_sr fun K2 hK2 => ?_
 simp [aLen, aIndexAddr, aload, frame0, lenM, int_beq, sl_at (n := 0) rfl getM0, sl_at (n := 12) rfl getM12, part_byte, eqM0, eqM12, eqI]
 apply hK2
 refine T_ret ?_
 try simp only [kr]
 exact owes_one (.inr rfl) hwf rfl rfl (.refl _) (by simp) (by simp)
structure DImage.In (m : DImage) : Prop where
 typed : m.Typed
 sizes : ∀ f ∈ m.codes, f.ops.length < 2 ^ 62 ∧ f.loops.length < 2 ^ 62
 addr : ∀ x ∈ m.cells, x.addr.size ≤ 281474976710656
theorem enc_ok {m : DImage} (h : m.In) (hE : encE m = 0) : checkE m = 0 ∧ (encFile m).length ≤ 4194304 ∧ encB m = encFile m ∧ m.Ok := by
 unfold encE at hE
 by_cases hc : checkE m = 0
 rw [if_pos hc] at hE
 by_cases hl : 4194304 < (encFile m).length
 rw [if_pos hl] at hE; cases hE
 refine ⟨hc, by omega, ?_, h.typed.ok hc⟩
 unfold encB; rw [if_pos hc, if_neg hl]
 rw [if_neg hc] at hE; exact absurd hE hc
theorem Rdg.grow {H A B : AS} {id : Nat} {bs : List UInt8} {c : Nat} {s : RS} (h : Rdg H A id bs c s) (he : A.Ext B) (hid : id < A.next) : Rdg H B id bs c s :=
 ⟨⟨by rw [he.box id hid]; exact h.ok.box, h.ok.le, h.ok.small⟩, h.ext.trans he⟩
theorem opsO (H : AS) (id : Nat) (bs : List UInt8) (c : Nat) (s : RS) (hr : RdOk H id bs c s) : ACalls Tryz.prog 58 [.ptr id 1 0 0, .bound 59 [.ptr id 1 0 0]] H fun q H' => OutIs H.next H' q 10 ((rdList bs rdOp s).1.map DOp.row) ∧ (H.setBox id [rrow bs c (rdList bs rdOp s).2]).Ext H' := by
 refine ACalls_open Tryz.func58 rfl (by kernel_rfl) (by simp) fun hwf hbel => ?_
 have hid := hr.lt hwf
 have hle := hr.le
 have hsm := hr.small
 have hmm := rdMany_small (s := s) hle
 refine T_sr fun K0 hK0 => ?_
 simp [frame0]
 apply hK0
 refine T_sr fun K1 hK1 => ?_
 simp [frame0]
 apply hK1
 refine T_seqk fun K2 hK2 => ?_
 refine T_sr fun K3 hK3 => ?_
 simp [frame0]
 refine callK.of (manyIs _ id bs c s hr) ?_
 rintro _ Hz ⟨rfl, hz⟩
 subst Hz
 simp [frame0]
 apply hK3
 refine T_block ?_
 refine T_loop (fun k F H' => ∃ (i : Nat) (acc : List DOp) (s1 : RS), k = (rdMany bs s).1 - i ∧ i ≤ (rdMany bs s).1 ∧ F 0 = .ptr id 1 0 0 ∧ F 1 = .bound 59 [.ptr id 1 0 0] ∧ F 8 = pi (rdMany bs s).1 ∧ F 9 = pi i ∧ Rdg H H' id bs c s1 ∧ OutIs H.next H' (F 5) 10 (acc.map DOp.row) ∧ acc.length = i ∧ rdGo (rdOp bs) (rdMany bs s).1 [] (rdMany bs s).2 = rdGo (rdOp bs) ((rdMany bs s).1 - i) acc s1) ((rdMany bs s).1) ?_ ?_
 refine ⟨0, [], (rdMany bs s).2, ?_⟩
 simp [frame0]
 exact ⟨(Rdg.start hr).step (rdMany_le hle), .nil⟩
 rintro k F H1 ⟨i, acc, s1, rfl, hile, g0, g1, g8, g9, hg, hout, hal, hgo⟩
 refine T_sr fun K4 hK4 => ?_
 simp [aBin, aBinV, frame0, g0, g1, g8, g9]
 apply hK4
 refine T_seqk fun K5 hK5 => ?_
 refine T_cond (by first | rfl | exact g0 | exact g1 | exact g8 | exact g9) (fun c0 => ?_) (fun c0 => ?_)
 have hlt : i < (rdMany bs s).1 := by simp at c0; omega
 refine T_skip ?_
 try simp only [kn]
 apply hK5
 refine T_seqk fun K6 hK6 => ?_
 refine T_block ?_
 refine T_mid (fun F H' => F 0 = .ptr id 1 0 0 ∧ F 1 = .bound 59 [.ptr id 1 0 0] ∧ F 8 = pi (rdMany bs s).1 ∧ F 9 = pi i ∧ F 6 = .ptr H1.next 1 0 0 ∧ Rdg H H' id bs c (rdOp bs s1).2 ∧ H'.box H1.next = some [DOp.row (rdOp bs s1).1] ∧ OutIs H.next H' (F 5) 10 (acc.map DOp.row) ∧ H1.next < H'.next) ?_ ?_
 refine T_rg ?_
 simp [astore, frame0, g0, g1, g8, g9, splice_op, alloc_50]
 refine callK.of (opIs _ id bs c _ hg.ok) ?_
 rintro _ H2 ⟨rfl, rfl⟩
 simp [astore, frame0, g0, g1, g8, g9, splice_op, alloc_50]
 have hn1 : H.next ≤ H1.next := by have := hg.ext.next; simpa using this
 exact ⟨(((hg.step (rdOp_le hg.ok.le)).other hn1 hid).bump).other hn1 hid, hout.keep (by simp) (fun j hj hl => by simp [show j ≠ id by omega, show j ≠ H1.next by omega])⟩
 rintro F H' ⟨g0, g1, g8, g9, g6, hg, b6, hout, hlt1⟩
 refine T_seqk fun K7 hK7 => ?_
 refine T_sr fun K8 hK8 => ?_
 simp [aFieldAddr, aload, partOf, aBin, aBinV, frame0, g0, g1, g8, g9, g6, hg.ok.box, rrow, int_bne]
 apply hK8
 refine T_cond (by first | rfl | exact g0 | exact g1 | exact g8 | exact g9 | exact g0 | exact g1 | exact g8 | exact g9 | exact g6) (fun c1 => ?_) (fun c1 => ?_)
 have he : ¬ (rdOp bs s1).2.e = 0 := by simpa using c1
 refine T_sr fun K9 hK9 => ?_
 simp [frame0, g0, g1, g8, g9, g6]
 apply hK9
 refine T_ret ?_
 try simp only [kr]
 have e : rdList bs rdOp s = ([], (rdOp bs s1).2) := by
   unfold rdList; rw [hgo, show (rdMany bs s).1 - i = ((rdMany bs s).1 - (i + 1)) + 1 by omega, rdGo, if_neg he]
 exact owesO_one (.inr rfl) rfl ⟨by rw [e]; exact .nil, by rw [e]; exact hg.ext⟩
 have he : (rdOp bs s1).2.e = 0 := by simpa using c1
 refine T_skip ?_
 try simp only [kn]
 apply hK7
 refine T_rg ?_
 simp [aload, abuildSlice, frame0, g0, g1, g8, g9, g6, b6, part_op, frz_Op]
 refine appendK.of (aappend_outT (lo := H.next) (rows := acc.map DOp.row) (ys := [DOp.row (rdOp bs s1).1]) ?_ ?_ rfl rfl Tryz.sz50 Tryz.zero50 Tryz.by50 rfl rfl (by decide) ?_ (by intro r hr p hp; rw [List.mem_singleton] at hr; subst hr; exact frozen_rowOp _ p hp) ?_ ?_)
 exact hout.keep (by simp) (fun j _ hj => by simp [Nat.ne_of_lt hj])
 have := hg.ext.next; simp at this ⊢; omega
 simp [srcOf]
 simp; omega
 intro p2 H3 hout2 hab hel
 have hext3 : (H.setBox id [rrow bs c (rdOp bs s1).2]).Ext H3 := hab _ (by simp) (.bump (.setBox (by have := hg.ext.next; simp at this ⊢; omega) hg.ext))
 have hg3 : Rdg H H3 id bs c (rdOp bs s1).2 := ⟨⟨by rw [hext3.box id (by simpa using hid)]; simp, hg.ok.le, hg.ok.small⟩, hext3⟩
 simp [aload, abuildSlice, frame0, g0, g1, g8, g9, g6, b6, part_op, frz_Op]
 apply hK6
 refine T_rg ?_
 simp [aBin, aBinV, frame0, g0, g1, g8, g9, g6]
 refine ⟨(rdMany bs s).1 - (i + 1), by omega, i + 1, rfl, by omega, by rw [wrap_i64 (by omega) (by omega)]; rfl, acc ++ [(rdOp bs s1).1], (rdOp bs s1).2, hg3, by simpa using hout2, by simp [hal], ?_⟩
 rw [hgo, show (rdMany bs s).1 - i = ((rdMany bs s).1 - (i + 1)) + 1 by omega, rdGo, if_pos he]
 have hge : i = (rdMany bs s).1 := by simp at c0; omega
 subst hge
 refine T_exit ?_
 try simp only [ke, kn, if_true, if_false, Nat.reduceEqDiff, reduceIte]
 apply hK2
 refine T_sr fun K10 hK10 => ?_
 simp [frame0, g0, g1, g8, g9]
 apply hK10
 refine T_ret ?_
 try simp only [kr]
 have e : rdList bs rdOp s = (acc, s1) := by
   unfold rdList; rw [hgo, Nat.sub_self]; rfl
 exact owesO_one (.inr rfl) rfl ⟨by rw [e]; exact hout, by rw [e]; exact hg.ext⟩
theorem loopsO (H : AS) (id : Nat) (bs : List UInt8) (c : Nat) (s : RS) (hr : RdOk H id bs c s) : ACalls Tryz.prog 60 [.ptr id 1 0 0, .bound 61 [.ptr id 1 0 0]] H fun q H' => OutIs H.next H' q 3 ((rdList bs rdLoop s).1.map DLoop.row) ∧ (H.setBox id [rrow bs c (rdList bs rdLoop s).2]).Ext H' := by
 refine ACalls_open Tryz.func60 rfl (by kernel_rfl) (by simp) fun hwf hbel => ?_
 have hid := hr.lt hwf
 have hle := hr.le
 have hsm := hr.small
 have hmm := rdMany_small (s := s) hle
 refine T_sr fun K0 hK0 => ?_
 simp [frame0]
 apply hK0
 refine T_sr fun K1 hK1 => ?_
 simp [frame0]
 apply hK1
 refine T_seqk fun K2 hK2 => ?_
 refine T_sr fun K3 hK3 => ?_
 simp [frame0]
 refine callK.of (manyIs _ id bs c s hr) ?_
 rintro _ Hz ⟨rfl, hz⟩
 subst Hz
 simp [frame0]
 apply hK3
 refine T_block ?_
 refine T_loop (fun k F H' => ∃ (i : Nat) (acc : List DLoop) (s1 : RS), k = (rdMany bs s).1 - i ∧ i ≤ (rdMany bs s).1 ∧ F 0 = .ptr id 1 0 0 ∧ F 1 = .bound 61 [.ptr id 1 0 0] ∧ F 8 = pi (rdMany bs s).1 ∧ F 9 = pi i ∧ Rdg H H' id bs c s1 ∧ OutIs H.next H' (F 5) 3 (acc.map DLoop.row) ∧ acc.length = i ∧ rdGo (rdLoop bs) (rdMany bs s).1 [] (rdMany bs s).2 = rdGo (rdLoop bs) ((rdMany bs s).1 - i) acc s1) ((rdMany bs s).1) ?_ ?_
 refine ⟨0, [], (rdMany bs s).2, ?_⟩
 simp [frame0]
 exact ⟨(Rdg.start hr).step (rdMany_le hle), .nil⟩
 rintro k F H1 ⟨i, acc, s1, rfl, hile, g0, g1, g8, g9, hg, hout, hal, hgo⟩
 refine T_sr fun K4 hK4 => ?_
 simp [aBin, aBinV, frame0, g0, g1, g8, g9]
 apply hK4
 refine T_seqk fun K5 hK5 => ?_
 refine T_cond (by first | rfl | exact g0 | exact g1 | exact g8 | exact g9) (fun c0 => ?_) (fun c0 => ?_)
 have hlt : i < (rdMany bs s).1 := by simp at c0; omega
 refine T_skip ?_
 try simp only [kn]
 apply hK5
 refine T_seqk fun K6 hK6 => ?_
 refine T_block ?_
 refine T_mid (fun F H' => F 0 = .ptr id 1 0 0 ∧ F 1 = .bound 61 [.ptr id 1 0 0] ∧ F 8 = pi (rdMany bs s).1 ∧ F 9 = pi i ∧ F 6 = .ptr H1.next 1 0 0 ∧ Rdg H H' id bs c (rdLoop bs s1).2 ∧ H'.box H1.next = some [DLoop.row (rdLoop bs s1).1] ∧ OutIs H.next H' (F 5) 3 (acc.map DLoop.row) ∧ H1.next < H'.next) ?_ ?_
 refine T_rg ?_
 simp [astore, frame0, g0, g1, g8, g9, splice_loop, alloc_52]
 refine callK.of (loopIs _ id bs c _ hg.ok) ?_
 rintro _ H2 ⟨rfl, rfl⟩
 simp [astore, frame0, g0, g1, g8, g9, splice_loop, alloc_52]
 have hn1 : H.next ≤ H1.next := by have := hg.ext.next; simpa using this
 exact ⟨(((hg.step (rdLoop_le hg.ok.le)).other hn1 hid).bump).other hn1 hid, hout.keep (by simp) (fun j hj hl => by simp [show j ≠ id by omega, show j ≠ H1.next by omega])⟩
 rintro F H' ⟨g0, g1, g8, g9, g6, hg, b6, hout, hlt1⟩
 refine T_seqk fun K7 hK7 => ?_
 refine T_sr fun K8 hK8 => ?_
 simp [aFieldAddr, aload, partOf, aBin, aBinV, frame0, g0, g1, g8, g9, g6, hg.ok.box, rrow, int_bne]
 apply hK8
 refine T_cond (by first | rfl | exact g0 | exact g1 | exact g8 | exact g9 | exact g0 | exact g1 | exact g8 | exact g9 | exact g6) (fun c1 => ?_) (fun c1 => ?_)
 have he : ¬ (rdLoop bs s1).2.e = 0 := by simpa using c1
 refine T_sr fun K9 hK9 => ?_
 simp [frame0, g0, g1, g8, g9, g6]
 apply hK9
 refine T_ret ?_
 try simp only [kr]
 have e : rdList bs rdLoop s = ([], (rdLoop bs s1).2) := by
   unfold rdList; rw [hgo, show (rdMany bs s).1 - i = ((rdMany bs s).1 - (i + 1)) + 1 by omega, rdGo, if_neg he]
 exact owesO_one (.inr rfl) rfl ⟨by rw [e]; exact .nil, by rw [e]; exact hg.ext⟩
 have he : (rdLoop bs s1).2.e = 0 := by simpa using c1
 refine T_skip ?_
 try simp only [kn]
 apply hK7
 refine T_rg ?_
 simp [aload, abuildSlice, frame0, g0, g1, g8, g9, g6, b6, part_loop, frz_Loop]
 refine appendK.of (aappend_outT (lo := H.next) (rows := acc.map DLoop.row) (ys := [DLoop.row (rdLoop bs s1).1]) ?_ ?_ rfl rfl Tryz.sz52 Tryz.zero52 Tryz.by52 rfl rfl (by decide) ?_ (by intro r hr p hp; rw [List.mem_singleton] at hr; subst hr; exact frozen_rowLoop _ p hp) ?_ ?_)
 exact hout.keep (by simp) (fun j _ hj => by simp [Nat.ne_of_lt hj])
 have := hg.ext.next; simp at this ⊢; omega
 simp [srcOf]
 simp; omega
 intro p2 H3 hout2 hab hel
 have hext3 : (H.setBox id [rrow bs c (rdLoop bs s1).2]).Ext H3 := hab _ (by simp) (.bump (.setBox (by have := hg.ext.next; simp at this ⊢; omega) hg.ext))
 have hg3 : Rdg H H3 id bs c (rdLoop bs s1).2 := ⟨⟨by rw [hext3.box id (by simpa using hid)]; simp, hg.ok.le, hg.ok.small⟩, hext3⟩
 simp [aload, abuildSlice, frame0, g0, g1, g8, g9, g6, b6, part_loop, frz_Loop]
 apply hK6
 refine T_rg ?_
 simp [aBin, aBinV, frame0, g0, g1, g8, g9, g6]
 refine ⟨(rdMany bs s).1 - (i + 1), by omega, i + 1, rfl, by omega, by rw [wrap_i64 (by omega) (by omega)]; rfl, acc ++ [(rdLoop bs s1).1], (rdLoop bs s1).2, hg3, by simpa using hout2, by simp [hal], ?_⟩
 rw [hgo, show (rdMany bs s).1 - i = ((rdMany bs s).1 - (i + 1)) + 1 by omega, rdGo, if_pos he]
 have hge : i = (rdMany bs s).1 := by simp at c0; omega
 subst hge
 refine T_exit ?_
 try simp only [ke, kn, if_true, if_false, Nat.reduceEqDiff, reduceIte]
 apply hK2
 refine T_sr fun K10 hK10 => ?_
 simp [frame0, g0, g1, g8, g9]
 apply hK10
 refine T_ret ?_
 try simp only [kr]
 have e : rdList bs rdLoop s = (acc, s1) := by
   unfold rdList; rw [hgo, Nat.sub_self]; rfl
 exact owesO_one (.inr rfl) rfl ⟨by rw [e]; exact hout, by rw [e]; exact hg.ext⟩
theorem cellsO (H : AS) (id : Nat) (bs : List UInt8) (c : Nat) (s : RS) (hr : RdOk H id bs c s) : ACalls Tryz.prog 22 [.ptr id 1 0 0, .bound 23 [.ptr id 1 0 0]] H fun q H' => OutIs H.next H' q 11 ((rdList bs rdCell s).1.map DCell.row) ∧ (H.setBox id [rrow bs c (rdList bs rdCell s).2]).Ext H' := by
 refine ACalls_open Tryz.func22 rfl (by kernel_rfl) (by simp) fun hwf hbel => ?_
 have hid := hr.lt hwf
 have hle := hr.le
 have hsm := hr.small
 have hmm := rdMany_small (s := s) hle
 refine T_sr fun K0 hK0 => ?_
 simp [frame0]
 apply hK0
 refine T_sr fun K1 hK1 => ?_
 simp [frame0]
 apply hK1
 refine T_seqk fun K2 hK2 => ?_
 refine T_sr fun K3 hK3 => ?_
 simp [frame0]
 refine callK.of (manyIs _ id bs c s hr) ?_
 rintro _ Hz ⟨rfl, hz⟩
 subst Hz
 simp [frame0]
 apply hK3
 refine T_block ?_
 refine T_loop (fun k F H' => ∃ (i : Nat) (acc : List DCell) (s1 : RS), k = (rdMany bs s).1 - i ∧ i ≤ (rdMany bs s).1 ∧ F 0 = .ptr id 1 0 0 ∧ F 1 = .bound 23 [.ptr id 1 0 0] ∧ F 8 = pi (rdMany bs s).1 ∧ F 9 = pi i ∧ Rdg H H' id bs c s1 ∧ OutIs H.next H' (F 5) 11 (acc.map DCell.row) ∧ acc.length = i ∧ rdGo (rdCell bs) (rdMany bs s).1 [] (rdMany bs s).2 = rdGo (rdCell bs) ((rdMany bs s).1 - i) acc s1) ((rdMany bs s).1) ?_ ?_
 refine ⟨0, [], (rdMany bs s).2, ?_⟩
 simp [frame0]
 exact ⟨(Rdg.start hr).step (rdMany_le hle), .nil⟩
 rintro k F H1 ⟨i, acc, s1, rfl, hile, g0, g1, g8, g9, hg, hout, hal, hgo⟩
 refine T_sr fun K4 hK4 => ?_
 simp [aBin, aBinV, frame0, g0, g1, g8, g9]
 apply hK4
 refine T_seqk fun K5 hK5 => ?_
 refine T_cond (by first | rfl | exact g0 | exact g1 | exact g8 | exact g9) (fun c0 => ?_) (fun c0 => ?_)
 have hlt : i < (rdMany bs s).1 := by simp at c0; omega
 refine T_skip ?_
 try simp only [kn]
 apply hK5
 refine T_seqk fun K6 hK6 => ?_
 refine T_block ?_
 refine T_mid (fun F H' => F 0 = .ptr id 1 0 0 ∧ F 1 = .bound 23 [.ptr id 1 0 0] ∧ F 8 = pi (rdMany bs s).1 ∧ F 9 = pi i ∧ F 6 = .ptr H1.next 1 0 0 ∧ Rdg H H' id bs c (rdCell bs s1).2 ∧ H'.box H1.next = some [DCell.row (rdCell bs s1).1] ∧ OutIs H.next H' (F 5) 11 (acc.map DCell.row) ∧ H1.next < H'.next) ?_ ?_
 refine T_rg ?_
 simp [astore, frame0, g0, g1, g8, g9, splice_cell, alloc_44]
 refine callK.of (cellIs _ id bs c _ hg.ok) ?_
 rintro _ H2 ⟨rfl, rfl⟩
 simp [astore, frame0, g0, g1, g8, g9, splice_cell, alloc_44]
 have hn1 : H.next ≤ H1.next := by have := hg.ext.next; simpa using this
 exact ⟨(((hg.step (rdCell_le hg.ok.le)).other hn1 hid).bump).other hn1 hid, hout.keep (by simp) (fun j hj hl => by simp [show j ≠ id by omega, show j ≠ H1.next by omega])⟩
 rintro F H' ⟨g0, g1, g8, g9, g6, hg, b6, hout, hlt1⟩
 refine T_seqk fun K7 hK7 => ?_
 refine T_sr fun K8 hK8 => ?_
 simp [aFieldAddr, aload, partOf, aBin, aBinV, frame0, g0, g1, g8, g9, g6, hg.ok.box, rrow, int_bne]
 apply hK8
 refine T_cond (by first | rfl | exact g0 | exact g1 | exact g8 | exact g9 | exact g0 | exact g1 | exact g8 | exact g9 | exact g6) (fun c1 => ?_) (fun c1 => ?_)
 have he : ¬ (rdCell bs s1).2.e = 0 := by simpa using c1
 refine T_sr fun K9 hK9 => ?_
 simp [frame0, g0, g1, g8, g9, g6]
 apply hK9
 refine T_ret ?_
 try simp only [kr]
 have e : rdList bs rdCell s = ([], (rdCell bs s1).2) := by
   unfold rdList; rw [hgo, show (rdMany bs s).1 - i = ((rdMany bs s).1 - (i + 1)) + 1 by omega, rdGo, if_neg he]
 exact owesO_one (.inr rfl) rfl ⟨by rw [e]; exact .nil, by rw [e]; exact hg.ext⟩
 have he : (rdCell bs s1).2.e = 0 := by simpa using c1
 refine T_skip ?_
 try simp only [kn]
 apply hK7
 refine T_rg ?_
 simp [aload, abuildSlice, frame0, g0, g1, g8, g9, g6, b6, part_cell, frz_Cell]
 refine appendK.of (aappend_outT (lo := H.next) (rows := acc.map DCell.row) (ys := [DCell.row (rdCell bs s1).1]) ?_ ?_ rfl rfl Tryz.sz44 Tryz.zero44 Tryz.by44 rfl rfl (by decide) ?_ (by intro r hr p hp; rw [List.mem_singleton] at hr; subst hr; exact frozen_rowCell _ p hp) ?_ ?_)
 exact hout.keep (by simp) (fun j _ hj => by simp [Nat.ne_of_lt hj])
 have := hg.ext.next; simp at this ⊢; omega
 simp [srcOf]
 simp; omega
 intro p2 H3 hout2 hab hel
 have hext3 : (H.setBox id [rrow bs c (rdCell bs s1).2]).Ext H3 := hab _ (by simp) (.bump (.setBox (by have := hg.ext.next; simp at this ⊢; omega) hg.ext))
 have hg3 : Rdg H H3 id bs c (rdCell bs s1).2 := ⟨⟨by rw [hext3.box id (by simpa using hid)]; simp, hg.ok.le, hg.ok.small⟩, hext3⟩
 simp [aload, abuildSlice, frame0, g0, g1, g8, g9, g6, b6, part_cell, frz_Cell]
 apply hK6
 refine T_rg ?_
 simp [aBin, aBinV, frame0, g0, g1, g8, g9, g6]
 refine ⟨(rdMany bs s).1 - (i + 1), by omega, i + 1, rfl, by omega, by rw [wrap_i64 (by omega) (by omega)]; rfl, acc ++ [(rdCell bs s1).1], (rdCell bs s1).2, hg3, by simpa using hout2, by simp [hal], ?_⟩
 rw [hgo, show (rdMany bs s).1 - i = ((rdMany bs s).1 - (i + 1)) + 1 by omega, rdGo, if_pos he]
 have hge : i = (rdMany bs s).1 := by simp at c0; omega
 subst hge
 refine T_exit ?_
 try simp only [ke, kn, if_true, if_false, Nat.reduceEqDiff, reduceIte]
 apply hK2
 refine T_sr fun K10 hK10 => ?_
 simp [frame0, g0, g1, g8, g9]
 apply hK10
 refine T_ret ?_
 try simp only [kr]
 have e : rdList bs rdCell s = (acc, s1) := by
   unfold rdList; rw [hgo, Nat.sub_self]; rfl
 exact owesO_one (.inr rfl) rfl ⟨by rw [e]; exact hout, by rw [e]; exact hg.ext⟩
theorem intsO (H : AS) (id : Nat) (bs : List UInt8) (c : Nat) (s : RS) (hr : RdOk H id bs c s) : ACalls Tryz.prog 62 [.ptr id 1 0 0, .bound 56 [.ptr id 1 0 0]] H fun q H' => OutIs H.next H' q 1 ((rdList bs rdNum s).1.map irow) ∧ (H.setBox id [rrow bs c (rdList bs rdNum s).2]).Ext H' := by
 refine ACalls_open Tryz.func62 rfl (by kernel_rfl) (by simp) fun hwf hbel => ?_
 have hid := hr.lt hwf
 have hle := hr.le
 have hsm := hr.small
 have hmm := rdMany_small (s := s) hle
 refine T_sr fun K0 hK0 => ?_
 simp [frame0]
 apply hK0
 refine T_sr fun K1 hK1 => ?_
 simp [frame0]
 apply hK1
 refine T_seqk fun K2 hK2 => ?_
 refine T_sr fun K3 hK3 => ?_
 simp [frame0]
 refine callK.of (manyIs _ id bs c s hr) ?_
 rintro _ Hz ⟨rfl, hz⟩
 subst Hz
 simp [frame0]
 apply hK3
 refine T_block ?_
 refine T_loop (fun k F H' => ∃ (i : Nat) (acc : List Int) (s1 : RS), k = (rdMany bs s).1 - i ∧ i ≤ (rdMany bs s).1 ∧ F 0 = .ptr id 1 0 0 ∧ F 1 = .bound 56 [.ptr id 1 0 0] ∧ F 8 = pi (rdMany bs s).1 ∧ F 9 = pi i ∧ Rdg H H' id bs c s1 ∧ OutIs H.next H' (F 5) 1 (acc.map irow) ∧ acc.length = i ∧ rdGo (rdNum bs) (rdMany bs s).1 [] (rdMany bs s).2 = rdGo (rdNum bs) ((rdMany bs s).1 - i) acc s1) ((rdMany bs s).1) ?_ ?_
 refine ⟨0, [], (rdMany bs s).2, ?_⟩
 simp [frame0]
 exact ⟨(Rdg.start hr).step (rdMany_le hle), .nil⟩
 rintro k F H1 ⟨i, acc, s1, rfl, hile, g0, g1, g8, g9, hg, hout, hal, hgo⟩
 refine T_sr fun K4 hK4 => ?_
 simp [aBin, aBinV, frame0, g0, g1, g8, g9]
 apply hK4
 refine T_seqk fun K5 hK5 => ?_
 refine T_cond (by first | rfl | exact g0 | exact g1 | exact g8 | exact g9) (fun c0 => ?_) (fun c0 => ?_)
 have hlt : i < (rdMany bs s).1 := by simp at c0; omega
 refine T_skip ?_
 try simp only [kn]
 apply hK5
 refine T_seqk fun K6 hK6 => ?_
 refine T_block ?_
 refine T_mid (fun F H' => F 0 = .ptr id 1 0 0 ∧ F 1 = .bound 56 [.ptr id 1 0 0] ∧ F 8 = pi (rdMany bs s).1 ∧ F 9 = pi i ∧ F 6 = pi (rdNum bs s1).1 ∧ Rdg H H' id bs c (rdNum bs s1).2 ∧ OutIs H.next H' (F 5) 1 (acc.map irow)) ?_ ?_
 refine T_rg ?_
 simp [frame0, g0, g1, g8, g9]
 refine callK.of (numIs _ id bs c _ hg.ok) ?_
 rintro _ H2 ⟨rfl, rfl⟩
 simp [frame0, g0, g1, g8, g9]
 exact ⟨hg.step (rdNum_le hg.ok.le), hout.keep (by simp) (fun j hj hl => by simp [show j ≠ id by omega])⟩
 rintro F H' ⟨g0, g1, g8, g9, g6, hg, hout⟩
 refine T_seqk fun K7 hK7 => ?_
 refine T_sr fun K8 hK8 => ?_
 simp [aFieldAddr, aload, partOf, aBin, aBinV, frame0, g0, g1, g8, g9, g6, hg.ok.box, rrow, int_bne]
 apply hK8
 refine T_cond (by first | rfl | exact g0 | exact g1 | exact g8 | exact g9 | exact g0 | exact g1 | exact g8 | exact g9 | exact g6) (fun c1 => ?_) (fun c1 => ?_)
 have he : ¬ (rdNum bs s1).2.e = 0 := by simpa using c1
 refine T_sr fun K9 hK9 => ?_
 simp [frame0, g0, g1, g8, g9, g6]
 apply hK9
 refine T_ret ?_
 try simp only [kr]
 have e : rdList bs rdNum s = ([], (rdNum bs s1).2) := by
   unfold rdList; rw [hgo, show (rdMany bs s).1 - i = ((rdMany bs s).1 - (i + 1)) + 1 by omega, rdGo, if_neg he]
 exact owesO_one (.inr rfl) rfl ⟨by rw [e]; exact .nil, by rw [e]; exact hg.ext⟩
 have he : (rdNum bs s1).2.e = 0 := by simpa using c1
 refine T_skip ?_
 try simp only [kn]
 apply hK7
 refine T_rg ?_
 simp [abuildSlice, frame0, g0, g1, g8, g9, g6, frzR_id]
 refine appendK.of (aappend_outT (lo := H.next) (rows := acc.map irow) (ys := [irow (rdNum bs s1).1]) ?_ ?_ rfl rfl Tryz.sz3 Tryz.zero3 Tryz.by3 rfl rfl (by decide) ?_ (by intro r hr p hp; rw [List.mem_singleton] at hr; subst hr; exact frozenL _ p hp) ?_ ?_)
 exact hout.keep (by simp) (fun j _ hj => by simp [Nat.ne_of_lt hj])
 have := hg.ext.next; simp at this ⊢; omega
 simp [srcOf, irow]
 simp; omega
 intro p2 H3 hout2 hab hel
 have hext3 : (H.setBox id [rrow bs c (rdNum bs s1).2]).Ext H3 := hab _ (by simp) (.bump (.setBox (by have := hg.ext.next; simp at this ⊢; omega) hg.ext))
 have hg3 : Rdg H H3 id bs c (rdNum bs s1).2 := ⟨⟨by rw [hext3.box id (by simpa using hid)]; simp, hg.ok.le, hg.ok.small⟩, hext3⟩
 simp [abuildSlice, frame0, g0, g1, g8, g9, g6, frzR_id]
 apply hK6
 refine T_rg ?_
 simp [aBin, aBinV, frame0, g0, g1, g8, g9, g6]
 refine ⟨(rdMany bs s).1 - (i + 1), by omega, i + 1, rfl, by omega, by rw [wrap_i64 (by omega) (by omega)]; rfl, acc ++ [(rdNum bs s1).1], (rdNum bs s1).2, hg3, by simpa using hout2, by simp [hal], ?_⟩
 rw [hgo, show (rdMany bs s).1 - i = ((rdMany bs s).1 - (i + 1)) + 1 by omega, rdGo, if_pos he]
 have hge : i = (rdMany bs s).1 := by simp at c0; omega
 subst hge
 refine T_exit ?_
 try simp only [ke, kn, if_true, if_false, Nat.reduceEqDiff, reduceIte]
 apply hK2
 refine T_sr fun K10 hK10 => ?_
 simp [frame0, g0, g1, g8, g9]
 apply hK10
 refine T_ret ?_
 try simp only [kr]
 have e : rdList bs rdNum s = (acc, s1) := by
   unfold rdList; rw [hgo, Nat.sub_self]; rfl
 exact owesO_one (.inr rfl) rfl ⟨by rw [e]; exact hout, by rw [e]; exact hg.ext⟩
def frow (f : DFlat) (p q : PV) : List PV := [ps f.name, pi f.what, pi f.cells, pi f.base, pi f.regs, pi f.slots, p, q]
def jrow (j : DJob) (p q : PV) : List PV := [ps j.name, pi j.interval, pi j.single, pi j.priority, p, q, pi j.bound]
theorem flatO (H : AS) (id : Nat) (bs : List UInt8) (c : Nat) (s : RS) (hr : RdOk H id bs c s) : ACalls Tryz.prog 25 [.ptr id 1 0 0] H fun q H' => ∃ p1 p2, q = .agg (frow (rdFlat bs s).1 p1 p2) ∧ OutIs H.next H' p1 10 ((rdFlat bs s).1.ops.map DOp.row) ∧ OutIs H.next H' p2 3 ((rdFlat bs s).1.loops.map DLoop.row) ∧ (H.setBox id [rrow bs c (rdFlat bs s).2]).Ext H' := by
 refine ACalls_open Tryz.func25 rfl (by kernel_rfl) (by simp) fun hwf hbel => ?_
 have hid := hr.lt hwf
 have hx0 : ¬ H.next = id := by omega
 have hx1 : ¬ H.next + 1 = id := by omega
 have hy0 : ¬ id = H.next := by omega
 have hy1 : ¬ id = H.next + 1 := by omega
 have hx2 : ¬ H.next + 2 = id := by omega
 have hy2 : ¬ id = H.next + 2 := by omega
 refine T_mid (fun F H' => F 0 = .ptr id 1 0 0 ∧ F 2 = .ptr H.next 1 0 0 ∧ Rdg H H' id bs c s ∧ H'.box H.next = some [[.val (.string ⟨#[]⟩), pi 0, pi 0, pi 0, pi 0, pi 0, .nil, .nil]] ∧ H'.next = H.next + 1) ?_ ?_
 refine T_rg ?_
 simp [aalloc, frame0, hx0, hx1, hx2, hy0, hy1, hy2]
 exact ((Rdg.start hr).other (Nat.le_refl _) hid).bump
 rintro F H' ⟨g0, g2, hg, b2, hn⟩
 refine T_mid (fun F H' => F 0 = .ptr id 1 0 0 ∧ F 2 = .ptr H.next 1 0 0 ∧ F 3 = .ptr (H.next + 1) 1 0 0 ∧ Rdg H H' id bs c (rdText bs s).2 ∧ H'.box H.next = some [[.val (.string ⟨#[]⟩), pi 0, pi 0, pi 0, pi 0, pi 0, .nil, .nil]] ∧ H'.box (H.next + 1) = some [[ps (rdText bs s).1, pi 0, pi 0, pi 0, pi 0, pi 0, .nil, .nil]] ∧ H'.next = H.next + 2) ?_ ?_
 refine T_rg ?_
 simp [aBuild, aBuild.go, splice, aalloc, astore, frame0, hx0, hx1, hx2, hy0, hy1, hy2, g0, g2, hn, b2]
 refine callK.of (textIs _ id bs c _ hg.ok) ?_
 rintro _ H2 ⟨rfl, rfl⟩
 simp [aBuild, aBuild.go, splice, aalloc, astore, frame0, hx0, hx1, hx2, hy0, hy1, hy2, g0, g2, hn, b2]
 exact ((((hg.step (rdText_le hr.le)).other (by omega) hid).bump).other (by omega) hid)
 rintro F H' ⟨g0, g2, g3, hg, b2, b3, hn⟩
 refine T_seqk fun K0 hK0 => ?_
 refine T_sr fun K1 hK1 => ?_
 simp [aFieldAddr, abuildSlice, aLen, frame0, hx0, hx1, hx2, hy0, hy1, hy2, g0, g2, g3, hn, b2, b3, frzR_id]
 apply hK1
 refine T_block ?_
 refine T_loop (fun k F H' => ∃ i : Nat, k = 5 - i ∧ i ≤ 5 ∧ F 0 = .ptr id 1 0 0 ∧ F 2 = .ptr H.next 1 0 0 ∧ F 3 = .ptr (H.next + 1) 1 0 0 ∧ F 14 = .msl (H.next + 2) 5 1 ∧ F 15 = pi 5 ∧ F 16 = pi i ∧ Rdg H H' id bs c (rdNums bs i (rdText bs s).2).2 ∧ H'.box H.next = some [[.val (.string ⟨#[]⟩), pi 0, pi 0, pi 0, pi 0, pi 0, .nil, .nil]] ∧ H'.box (H.next + 1) = some [prow [ps (rdText bs s).1] 5 (rdNums bs i (rdText bs s).2).1 [.nil, .nil]] ∧ H'.box (H.next + 2) = some (ptrs (H.next + 1) 1 5) ∧ H'.next = H.next + 3) (5) ?_ ?_
 refine ⟨0, ?_⟩
 simp [g0, g2, g3, b2, b3, hn, rdNums, prow, ptrs]
 exact (Rdg.other (j := H.next + 2) hg (by omega) hid).bump
 rintro k F H' ⟨i, rfl, hile, g0, g2, g3, g14, g15, g16, hg, b2, b3, b4, hn⟩
 refine T_sr fun K2 hK2 => ?_
 simp [aBin, aBinV, frame0, hx0, hx1, hx2, hy0, hy1, hy2, g0, g2, g3, g14, g15, g16]
 apply hK2
 refine T_seqk fun K3 hK3 => ?_
 refine T_cond (by first | rfl | exact g0 | exact g2 | exact g0 | exact g2 | exact g3 | exact g0 | exact g2 | exact g3 | exact g14 | exact g15 | exact g16) (fun c0 => ?_) (fun c0 => ?_)
 have hlt : i < 5 := by simp at c0; omega
 have hi9 : i ≤ 6 := by omega
 have hpl : (prow [ps (rdText bs s).1] 5 (rdNums bs i (rdText bs s).2).1 [.nil, .nil]).length = 8 := by rw [prow_length (by simp; omega)]; rfl
 refine T_skip ?_
 try simp only [kn]
 apply hK3
 refine T_seqk fun K4 hK4 => ?_
 refine T_block ?_
 refine T_sr fun K5 hK5 => ?_
 simp [aIndexAddr, aload, frame0, hx0, hx1, hx2, hy0, hy1, hy2, g0, g2, g3, g14, g15, g16, amsl hlt, b4, ptrs_get hlt, part_ptr]
 apply hK5
 refine T_rg ?_
 simp [astore, frame0, hx0, hx1, hx2, hy0, hy1, hy2, g0, g2, g3, g14, g15, g16, b2, b3, b4, hpl, hi9, Nat.add_comm 1 i]
 refine callK.of (numIs _ id bs c _ hg.ok) ?_
 rintro _ H2 ⟨rfl, rfl⟩
 simp [astore, frame0, hx0, hx1, hx2, hy0, hy1, hy2, g0, g2, g3, g14, g15, g16, b2, b3, b4, hpl, hi9, Nat.add_comm 1 i]
 apply hK4
 refine T_rg ?_
 simp [aBin, aBinV, frame0, hx0, hx1, hx2, hy0, hy1, hy2, g0, g2, g3, g14, g15, g16]
 refine ⟨5 - (i + 1), by omega, i + 1, rfl, by omega, by rw [wrap_i64 (by omega) (by omega)]; rfl, (hg.step (rdNums_le (n := i + 1) (rdText_le hr.le))).other (by omega) hid, b2, ?_, b4, hn⟩
 simpa [rdNums, Nat.add_comm] using prow_step (pre := [ps (rdText bs s).1]) (n := 5) (i := i) (o := 1) (nums := (rdNums bs i (rdText bs s).2).1) (post := [.nil, .nil]) (by simp) rfl hlt (rdNum bs (rdNums bs i (rdText bs s).2).2).1
 have hlt : i = 5 := by simp at c0; omega
 subst hlt
 rw [list5 (rdNums_length (bs := bs) (n := 5) (s := (rdText bs s).2))] at b3
 simp only [prow, List.map_cons, List.map_nil, List.nil_append, List.cons_append, List.length_cons, List.length_nil, Nat.reduceAdd, Nat.sub_self, List.replicate_zero] at b3
 have hn3 : H.next + 3 ≤ H'.next := by omega
 refine T_exit ?_
 try simp only [ke, kn, if_true, if_false, Nat.reduceEqDiff, reduceIte]
 apply hK0
 refine T_mid (fun F H' => F 0 = .ptr id 1 0 0 ∧ F 2 = .ptr H.next 1 0 0 ∧ F 3 = .ptr (H.next + 1) 1 0 0 ∧ Rdg H H' id bs c (rdList bs rdOp (rdNums bs 5 (rdText bs s).2).2).2 ∧ H'.box H.next = some [[.val (.string ⟨#[]⟩), pi 0, pi 0, pi 0, pi 0, pi 0, .nil, .nil]] ∧ H.next + 3 ≤ H'.next ∧ ∃ p1 : PV, OutIs (H.next + 3) H' p1 10 ((rdList bs rdOp (rdNums bs 5 (rdText bs s).2).2).1.map DOp.row) ∧ H'.box (H.next + 1) = some [[ps (rdText bs s).1, pi ((rdNums bs 5 (rdText bs s).2).1.getD 0 0), pi ((rdNums bs 5 (rdText bs s).2).1.getD 1 0), pi ((rdNums bs 5 (rdText bs s).2).1.getD 2 0), pi ((rdNums bs 5 (rdText bs s).2).1.getD 3 0), pi ((rdNums bs 5 (rdText bs s).2).1.getD 4 0), p1, .nil]]) ?_ ?_
 refine T_rg ?_
 simp [aFieldAddr, astore, splice, frame0, hx0, hx1, hx2, hy0, hy1, hy2, g0, g2, g3, g14, g15, g16, b2, b3]
 refine callK.of (opsO _ id bs c _ hg.ok) ?_
 rintro p1 H2 ⟨ho, he2⟩
 have hidn : id < H'.next := by omega
 have c2 := he2.box H.next (by simp; omega)
 have c3 := he2.box (H.next + 1) (by simp; omega)
 simp only [box_setBox, if_neg hx0, if_neg hx1, b2, b3] at c2 c3
 have hn2 := he2.next
 simp at hn2
 have hg2 := (hg.step (rdList_le (fun _ => rdOp_le) (rdNums_le (rdText_le hr.le)))).grow he2 (by simpa using hidn)
 simp [aFieldAddr, astore, splice, frame0, hx0, hx1, hx2, hy0, hy1, hy2, g0, g2, g3, g14, g15, g16, b2, b3, c2, c3, ho.cells, ho.okCells]
 have ho' := ho.lower (lo' := H.next + 3) (by omega)
 exact ⟨hg2.other (by omega) hid, by omega, ho'.keep (by simp) (fun j hj hl => by simp [show j ≠ H.next + 1 by omega])⟩
 rintro F H' ⟨g0, g2, g3, hg, b2, hn, p1, o1, b3⟩
 refine T_mid (fun F H' => F 0 = .ptr id 1 0 0 ∧ F 2 = .ptr H.next 1 0 0 ∧ F 3 = .ptr (H.next + 1) 1 0 0 ∧ Rdg H H' id bs c (rdList bs rdLoop (rdList bs rdOp (rdNums bs 5 (rdText bs s).2).2).2).2 ∧ H'.box H.next = some [[.val (.string ⟨#[]⟩), pi 0, pi 0, pi 0, pi 0, pi 0, .nil, .nil]] ∧ H.next + 3 ≤ H'.next ∧ ∃ p1 p2 : PV, OutIs (H.next + 3) H' p1 10 ((rdList bs rdOp (rdNums bs 5 (rdText bs s).2).2).1.map DOp.row) ∧ OutIs (H.next + 3) H' p2 3 ((rdList bs rdLoop (rdList bs rdOp (rdNums bs 5 (rdText bs s).2).2).2).1.map DLoop.row) ∧ H'.box (H.next + 1) = some [[ps (rdText bs s).1, pi ((rdNums bs 5 (rdText bs s).2).1.getD 0 0), pi ((rdNums bs 5 (rdText bs s).2).1.getD 1 0), pi ((rdNums bs 5 (rdText bs s).2).1.getD 2 0), pi ((rdNums bs 5 (rdText bs s).2).1.getD 3 0), pi ((rdNums bs 5 (rdText bs s).2).1.getD 4 0), p1, p2]]) ?_ ?_
 refine T_rg ?_
 simp [aFieldAddr, astore, splice, frame0, hx0, hx1, hx2, hy0, hy1, hy2, g0, g2, g3, g14, g15, g16, b2, b3]
 refine callK.of (loopsO _ id bs c _ hg.ok) ?_
 rintro p2 H2 ⟨ho, he2⟩
 have hidn : id < H'.next := by omega
 have c2 := he2.box H.next (by simp; omega)
 have c3 := he2.box (H.next + 1) (by simp; omega)
 simp only [box_setBox, if_neg hx0, if_neg hx1, b2, b3] at c2 c3
 have hn2 := he2.next
 simp at hn2
 have hg2 := (hg.step (rdList_le (fun _ => rdLoop_le) (rdList_le (fun _ => rdOp_le) (rdNums_le (rdText_le hr.le))))).grow he2 (by simpa using hidn)
 simp [aFieldAddr, astore, splice, frame0, hx0, hx1, hx2, hy0, hy1, hy2, g0, g2, g3, g14, g15, g16, b2, b3, c2, c3, ho.cells, ho.okCells]
 have o1 := o1.keep (H' := H2) (by have := he2.next; simp at this; omega) (fun j hj hl => by rw [he2.box j (by simpa using hl)]; simp [show j ≠ id by omega])
 have ho' := ho.lower (lo' := H.next + 3) (by omega)
 exact ⟨hg2.other (by omega) hid, by omega, o1.keep (by simp) (fun j hj hl => by simp [show j ≠ H.next + 1 by omega]), ho'.keep (by simp) (fun j hj hl => by simp [show j ≠ H.next + 1 by omega])⟩
 rintro F H' ⟨g0, g2, g3, hg, b2, hn, p1, p2, o1, o2, b3⟩
 refine T_sr fun K6 hK6 => ?_
 simp [aload, partOf, astore, splice, frame0, hx0, hx1, hx2, hy0, hy1, hy2, g0, g2, g3, g14, g15, g16, b2, b3, o1.cells, o1.okCells, o2.cells, o2.okCells]
 apply hK6
 refine T_ret ?_
 try simp only [kr]
 refine ⟨.inr rfl, ?_⟩
 rw [show Tryz.f25.results.toList = [.cell 2 48] from rfl]
 simp [aResults, aload, partOf, g2]
 exact ⟨p1, p2, rfl, (o1.keep (by simp) (fun j hj hl => by simp [show j ≠ H.next by omega])).lower (by omega), (o2.keep (by simp) (fun j hj hl => by simp [show j ≠ H.next by omega])).lower (by omega), hg.ext.setBox (Nat.le_refl _)⟩
theorem jobO (H : AS) (id : Nat) (bs : List UInt8) (c : Nat) (s : RS) (hr : RdOk H id bs c s) : ACalls Tryz.prog 27 [.ptr id 1 0 0] H fun q H' => ∃ p1 p2, q = .agg (jrow (rdJob bs s).1 p1 p2) ∧ OutIs H.next H' p1 1 ((rdJob bs s).1.codes.map irow) ∧ OutIs H.next H' p2 1 ((rdJob bs s).1.bases.map irow) ∧ (H.setBox id [rrow bs c (rdJob bs s).2]).Ext H' := by
 refine ACalls_open Tryz.func27 rfl (by kernel_rfl) (by simp) fun hwf hbel => ?_
 have hid := hr.lt hwf
 have hx0 : ¬ H.next = id := by omega
 have hx1 : ¬ H.next + 1 = id := by omega
 have hy0 : ¬ id = H.next := by omega
 have hy1 : ¬ id = H.next + 1 := by omega
 have hx2 : ¬ H.next + 2 = id := by omega
 have hy2 : ¬ id = H.next + 2 := by omega
 refine T_mid (fun F H' => F 0 = .ptr id 1 0 0 ∧ F 2 = .ptr H.next 1 0 0 ∧ Rdg H H' id bs c s ∧ H'.box H.next = some [[.val (.string ⟨#[]⟩), pi 0, pi 0, pi 0, .nil, .nil, pi 0]] ∧ H'.next = H.next + 1) ?_ ?_
 refine T_rg ?_
 simp [aalloc, frame0, hx0, hx1, hx2, hy0, hy1, hy2]
 exact ((Rdg.start hr).other (Nat.le_refl _) hid).bump
 rintro F H' ⟨g0, g2, hg, b2, hn⟩
 refine T_mid (fun F H' => F 0 = .ptr id 1 0 0 ∧ F 2 = .ptr H.next 1 0 0 ∧ F 3 = .ptr (H.next + 1) 1 0 0 ∧ Rdg H H' id bs c (rdText bs s).2 ∧ H'.box H.next = some [[.val (.string ⟨#[]⟩), pi 0, pi 0, pi 0, .nil, .nil, pi 0]] ∧ H'.box (H.next + 1) = some [[ps (rdText bs s).1, pi 0, pi 0, pi 0, .nil, .nil, pi 0]] ∧ H'.next = H.next + 2) ?_ ?_
 refine T_rg ?_
 simp [aBuild, aBuild.go, splice, aalloc, astore, frame0, hx0, hx1, hx2, hy0, hy1, hy2, g0, g2, hn, b2]
 refine callK.of (textIs _ id bs c _ hg.ok) ?_
 rintro _ H2 ⟨rfl, rfl⟩
 simp [aBuild, aBuild.go, splice, aalloc, astore, frame0, hx0, hx1, hx2, hy0, hy1, hy2, g0, g2, hn, b2]
 exact ((((hg.step (rdText_le hr.le)).other (by omega) hid).bump).other (by omega) hid)
 rintro F H' ⟨g0, g2, g3, hg, b2, b3, hn⟩
 refine T_seqk fun K0 hK0 => ?_
 refine T_sr fun K1 hK1 => ?_
 simp [aFieldAddr, abuildSlice, aLen, frame0, hx0, hx1, hx2, hy0, hy1, hy2, g0, g2, g3, hn, b2, b3, frzR_id]
 apply hK1
 refine T_block ?_
 refine T_loop (fun k F H' => ∃ i : Nat, k = 3 - i ∧ i ≤ 3 ∧ F 0 = .ptr id 1 0 0 ∧ F 2 = .ptr H.next 1 0 0 ∧ F 3 = .ptr (H.next + 1) 1 0 0 ∧ F 12 = .msl (H.next + 2) 3 1 ∧ F 13 = pi 3 ∧ F 14 = pi i ∧ Rdg H H' id bs c (rdNums bs i (rdText bs s).2).2 ∧ H'.box H.next = some [[.val (.string ⟨#[]⟩), pi 0, pi 0, pi 0, .nil, .nil, pi 0]] ∧ H'.box (H.next + 1) = some [prow [ps (rdText bs s).1] 3 (rdNums bs i (rdText bs s).2).1 [.nil, .nil, pi 0]] ∧ H'.box (H.next + 2) = some (ptrs (H.next + 1) 1 3) ∧ H'.next = H.next + 3) (3) ?_ ?_
 refine ⟨0, ?_⟩
 simp [g0, g2, g3, b2, b3, hn, rdNums, prow, ptrs]
 exact (Rdg.other (j := H.next + 2) hg (by omega) hid).bump
 rintro k F H' ⟨i, rfl, hile, g0, g2, g3, g12, g13, g14, hg, b2, b3, b4, hn⟩
 refine T_sr fun K2 hK2 => ?_
 simp [aBin, aBinV, frame0, hx0, hx1, hx2, hy0, hy1, hy2, g0, g2, g3, g12, g13, g14]
 apply hK2
 refine T_seqk fun K3 hK3 => ?_
 refine T_cond (by first | rfl | exact g0 | exact g2 | exact g0 | exact g2 | exact g3 | exact g0 | exact g2 | exact g3 | exact g12 | exact g13 | exact g14) (fun c0 => ?_) (fun c0 => ?_)
 have hlt : i < 3 := by simp at c0; omega
 have hi9 : i ≤ 5 := by omega
 have hpl : (prow [ps (rdText bs s).1] 3 (rdNums bs i (rdText bs s).2).1 [.nil, .nil, pi 0]).length = 7 := by rw [prow_length (by simp; omega)]; rfl
 refine T_skip ?_
 try simp only [kn]
 apply hK3
 refine T_seqk fun K4 hK4 => ?_
 refine T_block ?_
 refine T_sr fun K5 hK5 => ?_
 simp [aIndexAddr, aload, frame0, hx0, hx1, hx2, hy0, hy1, hy2, g0, g2, g3, g12, g13, g14, amsl hlt, b4, ptrs_get hlt, part_ptr]
 apply hK5
 refine T_rg ?_
 simp [astore, frame0, hx0, hx1, hx2, hy0, hy1, hy2, g0, g2, g3, g12, g13, g14, b2, b3, b4, hpl, hi9, Nat.add_comm 1 i]
 refine callK.of (numIs _ id bs c _ hg.ok) ?_
 rintro _ H2 ⟨rfl, rfl⟩
 simp [astore, frame0, hx0, hx1, hx2, hy0, hy1, hy2, g0, g2, g3, g12, g13, g14, b2, b3, b4, hpl, hi9, Nat.add_comm 1 i]
 apply hK4
 refine T_rg ?_
 simp [aBin, aBinV, frame0, hx0, hx1, hx2, hy0, hy1, hy2, g0, g2, g3, g12, g13, g14]
 refine ⟨3 - (i + 1), by omega, i + 1, rfl, by omega, by rw [wrap_i64 (by omega) (by omega)]; rfl, (hg.step (rdNums_le (n := i + 1) (rdText_le hr.le))).other (by omega) hid, b2, ?_, b4, hn⟩
 simpa [rdNums, Nat.add_comm] using prow_step (pre := [ps (rdText bs s).1]) (n := 3) (i := i) (o := 1) (nums := (rdNums bs i (rdText bs s).2).1) (post := [.nil, .nil, pi 0]) (by simp) rfl hlt (rdNum bs (rdNums bs i (rdText bs s).2).2).1
 have hlt : i = 3 := by simp at c0; omega
 subst hlt
 rw [list3 (rdNums_length (bs := bs) (n := 3) (s := (rdText bs s).2))] at b3
 simp only [prow, List.map_cons, List.map_nil, List.nil_append, List.cons_append, List.length_cons, List.length_nil, Nat.reduceAdd, Nat.sub_self, List.replicate_zero] at b3
 have hn3 : H.next + 3 ≤ H'.next := by omega
 refine T_exit ?_
 try simp only [ke, kn, if_true, if_false, Nat.reduceEqDiff, reduceIte]
 apply hK0
 refine T_mid (fun F H' => F 0 = .ptr id 1 0 0 ∧ F 2 = .ptr H.next 1 0 0 ∧ F 3 = .ptr (H.next + 1) 1 0 0 ∧ Rdg H H' id bs c (rdList bs rdNum (rdNums bs 3 (rdText bs s).2).2).2 ∧ H'.box H.next = some [[.val (.string ⟨#[]⟩), pi 0, pi 0, pi 0, .nil, .nil, pi 0]] ∧ H.next + 3 ≤ H'.next ∧ ∃ p1 : PV, OutIs (H.next + 3) H' p1 1 ((rdList bs rdNum (rdNums bs 3 (rdText bs s).2).2).1.map irow) ∧ H'.box (H.next + 1) = some [[ps (rdText bs s).1, pi ((rdNums bs 3 (rdText bs s).2).1.getD 0 0), pi ((rdNums bs 3 (rdText bs s).2).1.getD 1 0), pi ((rdNums bs 3 (rdText bs s).2).1.getD 2 0), p1, .nil, pi 0]]) ?_ ?_
 refine T_rg ?_
 simp [aFieldAddr, astore, splice, frame0, hx0, hx1, hx2, hy0, hy1, hy2, g0, g2, g3, g12, g13, g14, b2, b3]
 refine callK.of (intsO _ id bs c _ hg.ok) ?_
 rintro p1 H2 ⟨ho, he2⟩
 have hidn : id < H'.next := by omega
 have c2 := he2.box H.next (by simp; omega)
 have c3 := he2.box (H.next + 1) (by simp; omega)
 simp only [box_setBox, if_neg hx0, if_neg hx1, b2, b3] at c2 c3
 have hn2 := he2.next
 simp at hn2
 have hg2 := (hg.step (rdList_le (fun _ => rdNum_le) (rdNums_le (rdText_le hr.le)))).grow he2 (by simpa using hidn)
 simp [aFieldAddr, astore, splice, frame0, hx0, hx1, hx2, hy0, hy1, hy2, g0, g2, g3, g12, g13, g14, b2, b3, c2, c3, ho.cells, ho.okCells]
 have ho' := ho.lower (lo' := H.next + 3) (by omega)
 exact ⟨hg2.other (by omega) hid, by omega, ho'.keep (by simp) (fun j hj hl => by simp [show j ≠ H.next + 1 by omega])⟩
 rintro F H' ⟨g0, g2, g3, hg, b2, hn, p1, o1, b3⟩
 refine T_mid (fun F H' => F 0 = .ptr id 1 0 0 ∧ F 2 = .ptr H.next 1 0 0 ∧ F 3 = .ptr (H.next + 1) 1 0 0 ∧ Rdg H H' id bs c (rdList bs rdNum (rdList bs rdNum (rdNums bs 3 (rdText bs s).2).2).2).2 ∧ H'.box H.next = some [[.val (.string ⟨#[]⟩), pi 0, pi 0, pi 0, .nil, .nil, pi 0]] ∧ H.next + 3 ≤ H'.next ∧ ∃ p1 p2 : PV, OutIs (H.next + 3) H' p1 1 ((rdList bs rdNum (rdNums bs 3 (rdText bs s).2).2).1.map irow) ∧ OutIs (H.next + 3) H' p2 1 ((rdList bs rdNum (rdList bs rdNum (rdNums bs 3 (rdText bs s).2).2).2).1.map irow) ∧ H'.box (H.next + 1) = some [[ps (rdText bs s).1, pi ((rdNums bs 3 (rdText bs s).2).1.getD 0 0), pi ((rdNums bs 3 (rdText bs s).2).1.getD 1 0), pi ((rdNums bs 3 (rdText bs s).2).1.getD 2 0), p1, p2, pi 0]]) ?_ ?_
 refine T_rg ?_
 simp [aFieldAddr, astore, splice, frame0, hx0, hx1, hx2, hy0, hy1, hy2, g0, g2, g3, g12, g13, g14, b2, b3]
 refine callK.of (intsO _ id bs c _ hg.ok) ?_
 rintro p2 H2 ⟨ho, he2⟩
 have hidn : id < H'.next := by omega
 have c2 := he2.box H.next (by simp; omega)
 have c3 := he2.box (H.next + 1) (by simp; omega)
 simp only [box_setBox, if_neg hx0, if_neg hx1, b2, b3] at c2 c3
 have hn2 := he2.next
 simp at hn2
 have hg2 := (hg.step (rdList_le (fun _ => rdNum_le) (rdList_le (fun _ => rdNum_le) (rdNums_le (rdText_le hr.le))))).grow he2 (by simpa using hidn)
 simp [aFieldAddr, astore, splice, frame0, hx0, hx1, hx2, hy0, hy1, hy2, g0, g2, g3, g12, g13, g14, b2, b3, c2, c3, ho.cells, ho.okCells]
 have o1 := o1.keep (H' := H2) (by have := he2.next; simp at this; omega) (fun j hj hl => by rw [he2.box j (by simpa using hl)]; simp [show j ≠ id by omega])
 have ho' := ho.lower (lo' := H.next + 3) (by omega)
 exact ⟨hg2.other (by omega) hid, by omega, o1.keep (by simp) (fun j hj hl => by simp [show j ≠ H.next + 1 by omega]), ho'.keep (by simp) (fun j hj hl => by simp [show j ≠ H.next + 1 by omega])⟩
 rintro F H' ⟨g0, g2, g3, hg, b2, hn, p1, p2, o1, o2, b3⟩
 refine T_mid (fun F H' => F 0 = .ptr id 1 0 0 ∧ F 2 = .ptr H.next 1 0 0 ∧ F 3 = .ptr (H.next + 1) 1 0 0 ∧ Rdg H H' id bs c (rdNum bs (rdList bs rdNum (rdList bs rdNum (rdNums bs 3 (rdText bs s).2).2).2).2).2 ∧ H'.box H.next = some [[.val (.string ⟨#[]⟩), pi 0, pi 0, pi 0, .nil, .nil, pi 0]] ∧ H.next + 3 ≤ H'.next ∧ ∃ p1 p2 : PV, OutIs (H.next + 3) H' p1 1 ((rdList bs rdNum (rdNums bs 3 (rdText bs s).2).2).1.map irow) ∧ OutIs (H.next + 3) H' p2 1 ((rdList bs rdNum (rdList bs rdNum (rdNums bs 3 (rdText bs s).2).2).2).1.map irow) ∧ H'.box (H.next + 1) = some [[ps (rdText bs s).1, pi ((rdNums bs 3 (rdText bs s).2).1.getD 0 0), pi ((rdNums bs 3 (rdText bs s).2).1.getD 1 0), pi ((rdNums bs 3 (rdText bs s).2).1.getD 2 0), p1, p2, pi (rdNum bs (rdList bs rdNum (rdList bs rdNum (rdNums bs 3 (rdText bs s).2).2).2).2).1]]) ?_ ?_
 refine T_rg ?_
 simp [aFieldAddr, astore, splice, frame0, hx0, hx1, hx2, hy0, hy1, hy2, g0, g2, g3, g12, g13, g14, b2, b3]
 refine callK.of (numIs _ id bs c _ hg.ok) ?_
 rintro _ H2 ⟨rfl, rfl⟩
 simp [aFieldAddr, astore, splice, frame0, hx0, hx1, hx2, hy0, hy1, hy2, g0, g2, g3, g12, g13, g14, b2, b3]
 exact ⟨(hg.step (rdNum_le (rdList_le (fun _ => rdNum_le) (rdList_le (fun _ => rdNum_le) (rdNums_le (rdText_le hr.le)))))).other (by omega) hid, by omega, o1.keep (by simp) (fun j hj hl => by simp [show j ≠ H.next + 1 by omega, show j ≠ id by omega]), o2.keep (by simp) (fun j hj hl => by simp [show j ≠ H.next + 1 by omega, show j ≠ id by omega])⟩
 rintro F H' ⟨g0, g2, g3, hg, b2, hn, p1, p2, o1, o2, b3⟩
 refine T_sr fun K6 hK6 => ?_
 simp [aload, partOf, astore, splice, frame0, hx0, hx1, hx2, hy0, hy1, hy2, g0, g2, g3, g12, g13, g14, b2, b3, o1.cells, o1.okCells, o2.cells, o2.okCells]
 apply hK6
 refine T_ret ?_
 try simp only [kr]
 refine ⟨.inr rfl, ?_⟩
 rw [show Tryz.f27.results.toList = [.cell 2 55] from rfl]
 simp [aResults, aload, partOf, g2]
 exact ⟨p1, p2, rfl, (o1.keep (by simp) (fun j hj hl => by simp [show j ≠ H.next by omega])).lower (by omega), (o2.keep (by simp) (fun j hj hl => by simp [show j ≠ H.next by omega])).lower (by omega), hg.ext.setBox (Nat.le_refl _)⟩
theorem OutIs.stay {lo sz : Nat} {H H' : AS} {p : PV} {rows : List (List PV)} (h : OutIs lo H p sz rows) (hn : H.next ≤ H'.next) (hb : ∀ id n s, p = .msl id n s → H'.box id = H.box id) : OutIs lo H' p sz rows := by
 rcases h with ⟨rfl, rfl⟩ | ⟨id, h1, h2, h3, h4⟩
 exact .nil
 exact .inr ⟨id, h1, Nat.lt_of_lt_of_le h2 hn, h3, by rw [hb id _ _ h3]; exact h4⟩
structure Stable {α : Type} (E : Nat → AS → List PV → α → Prop) : Prop where
 stay : ∀ {lo : Nat} {H H' : AS} {row : List PV} {x : α}, E lo H row x → H.next ≤ H'.next → (∀ q ∈ row, ∀ id n s, q = .msl id n s → H'.box id = H.box id) → E lo H' row x
 ids : ∀ {lo : Nat} {H : AS} {row : List PV} {x : α}, E lo H row x → ∀ q ∈ row, ∀ id n s, q = .msl id n s → lo ≤ id ∧ id < H.next
 lower : ∀ {lo lo' : Nat} {H : AS} {row : List PV} {x : α}, E lo H row x → lo' ≤ lo → E lo' H row x
def ApartL (rows : List (List PV)) : Prop := ∀ (i j : Nat) (ri rj : List PV), i < j → rows[i]? = some ri → rows[j]? = some rj → ∀ q ∈ ri, ∀ q' ∈ rj, ∀ id n s n' s', q = .msl id n s → q' ≠ .msl id n' s'
def ListAt {α : Type} (E : Nat → AS → List PV → α → Prop) (sz lo hi : Nat) (H : AS) (p : PV) (xs : List α) : Prop :=
 ∃ rows, OutIs lo H p sz rows ∧ rows.length = xs.length ∧ hi ≤ H.next ∧ (∀ j n s, p = .msl j n s → j < hi) ∧
  (∀ (i : Nat) (row : List PV) (x : α), rows[i]? = some row → xs[i]? = some x → E lo H row x ∧ ∀ q ∈ row, ∀ id n s, q = .msl id n s → id < hi ∧ ∀ n' s', p ≠ .msl id n' s') ∧ ApartL rows
theorem ListAt.nil {α : Type} {E : Nat → AS → List PV → α → Prop} {sz lo hi : Nat} {H : AS} (h : hi ≤ H.next) : ListAt E sz lo hi H .nil [] := ⟨[], .nil, rfl, h, fun j n s e => (by cases e), fun i row x h => by simp at h, fun i j ri rj _ h => by simp at h⟩
theorem ListAt.keep {α : Type} {E : Nat → AS → List PV → α → Prop} (hE : Stable E) {sz lo hi hi' : Nat} {H H' : AS} {p : PV} {xs : List α} (h : ListAt E sz lo hi H p xs) (h1 : hi ≤ hi') (h2 : hi' ≤ H'.next) (hn : H.next ≤ H'.next) (hb : ∀ id, lo ≤ id → id < hi → H'.box id = H.box id) : ListAt E sz lo hi' H' p xs := by
 obtain ⟨rows, g1, g2, g3, g4, g5, g6⟩ := h
 refine ⟨rows, g1.stay hn fun id n s e => hb id (g1.id_lt e).1 (g4 id n s e), g2, h2, fun j n s e => Nat.lt_of_lt_of_le (g4 j n s e) h1, fun i row x hr hx => ?_, g6⟩
 obtain ⟨e1, e2⟩ := g5 i row x hr hx
 exact ⟨hE.stay e1 hn fun q hq id n s e => hb id (hE.ids e1 q hq id n s e).1 (e2 q hq id n s e).1, fun q hq id n s e => ⟨Nat.lt_of_lt_of_le (e2 q hq id n s e).1 h1, (e2 q hq id n s e).2⟩⟩
theorem ListAt.lower {α : Type} {E : Nat → AS → List PV → α → Prop} (hE : Stable E) {sz lo lo' hi : Nat} {H : AS} {p : PV} {xs : List α} (h : ListAt E sz lo hi H p xs) (hl : lo' ≤ lo) : ListAt E sz lo' hi H p xs := by
 obtain ⟨rows, g1, g2, g3, g4, g5, g6⟩ := h
 exact ⟨rows, g1.lower hl, g2, g3, g4, fun i row x hr hx => ⟨hE.lower (g5 i row x hr hx).1 hl, (g5 i row x hr hx).2⟩, g6⟩
theorem ListAt.atomic {α : Type} {E : Nat → AS → List PV → α → Prop} {sz lo hi : Nat} {H : AS} {p : PV} {xs : List α} (h : ListAt E sz lo hi H p xs) : p.atomic = true := by
 obtain ⟨rows, g1, _⟩ := h; exact g1.atomic
theorem ListAt.push {α : Type} {E : Nat → AS → List PV → α → Prop} (hE : Stable E) {sz lo hi : Nat} {H H' : AS} {p p' : PV} {xs : List α} {rows : List (List PV)} {row : List PV} {x : α} (h1 : OutIs lo H p sz rows) (h2 : rows.length = xs.length) (hh : hi ≤ H.next) (hp : ∀ j n s, p = .msl j n s → j < hi)
  (h3 : ∀ (i : Nat) (row : List PV) (x : α), rows[i]? = some row → xs[i]? = some x → E lo H row x ∧ ∀ q ∈ row, ∀ id n s, q = .msl id n s → id < hi ∧ ∀ n' s', p ≠ .msl id n' s') (h4 : ApartL rows) (hx : E lo H row x) (hoff : ∀ q ∈ row, ∀ j n s, q = .msl j n s → hi ≤ j)
  (hout : OutIs lo H' p' sz (rows ++ [row])) (hel : Elsewhere p p' H H') : ListAt E sz lo H'.next H' p' (xs ++ [x]) := by
 have key : ∀ (row : List PV) (x : α), E lo H row x → (∀ q ∈ row, ∀ id n s, q = .msl id n s → ∀ n' s', p ≠ .msl id n' s') → E lo H' row x ∧ ∀ q ∈ row, ∀ id n s, q = .msl id n s → id < H'.next ∧ ∀ n' s', p' ≠ .msl id n' s' := by
  intro row x hx ho
  refine ⟨hE.stay hx hel.next fun q hq id n s e => hel.box id (hE.ids hx q hq id n s e).2 fun n' s' e' => ho q hq id n s e n' s' e', fun q hq j n s e => ⟨Nat.lt_of_lt_of_le (hE.ids hx q hq j n s e).2 hel.next, fun n' s' e' => ?_⟩⟩
  rcases hel.own j n' s' e' with ⟨m, s1, e1⟩ | hge
  ·exact ho q hq j n s e m s1 e1
  ·have := (hE.ids hx q hq j n s e).2; omega
 refine ⟨rows ++ [row], hout, by simp [h2], Nat.le_refl _, fun j n s e => (hout.id_lt e).2, fun i r y hr hy => ?_, fun i j ri rj hij hi hj q hq q' hq' id n s n' s' e e' => ?_⟩
 rcases Nat.lt_or_ge i rows.length with hi | hi
 rw [List.getElem?_append_left hi] at hr
 rw [List.getElem?_append_left (by omega)] at hy
 exact key r y (h3 i r y hr hy).1 fun q hq id n s e => ((h3 i r y hr hy).2 q hq id n s e).2
 rw [List.getElem?_append_right (by omega)] at hr
 rw [List.getElem?_append_right (by omega)] at hy
 rw [← h2] at hy
 have h0 : i - rows.length = 0 := by
  have := (List.getElem?_eq_some_iff.1 hr).1; simp at this; omega
 rw [h0] at hr hy
 simp at hr hy
 subst hr; subst hy
 exact key _ _ hx fun q hq id n s e n' s' e' => by have h1 := hp id n' s' e'; have h2 := hoff q hq id n s e; omega
 have hjl := (List.getElem?_eq_some_iff.1 hj).1
 simp only [List.length_append, List.length_cons, List.length_nil] at hjl
 rw [List.getElem?_append_left (by omega)] at hi
 rcases Nat.lt_or_ge j rows.length with hj2 | hj2
 rw [List.getElem?_append_left hj2] at hj
 exact h4 i j ri rj hij hi hj q hq q' hq' id n s n' s' e e'
 rw [List.getElem?_append_right (by omega), show j - rows.length = 0 by omega] at hj
 simp at hj; subst hj
 have hil := (List.getElem?_eq_some_iff.1 hi).1
 have h5 := ((h3 i ri (xs[i]'(by omega)) hi (List.getElem?_eq_getElem (by omega))).2 q hq id n s e).1
 have h6 := hoff q' hq' id n' s' e'
 omega
def FlatAt (lo : Nat) (H : AS) (row : List PV) (f : DFlat) : Prop := ∃ p q, row = frow f p q ∧ OutIs lo H p 10 (f.ops.map DOp.row) ∧ OutIs lo H q 3 (f.loops.map DLoop.row)
def JobAt (lo : Nat) (H : AS) (row : List PV) (j : DJob) : Prop := ∃ p q, row = jrow j p q ∧ OutIs lo H p 1 (j.codes.map irow) ∧ OutIs lo H q 1 (j.bases.map irow)
theorem stableFlat : Stable FlatAt := by
 refine ⟨?_, ?_, ?_⟩
 rintro lo H H' row x ⟨p, q, rfl, h1, h2⟩ hn hb
 exact ⟨p, q, rfl, h1.stay hn fun id n s e => hb p (by simp [frow]) id n s e, h2.stay hn fun id n s e => hb q (by simp [frow]) id n s e⟩
 rintro lo H row x ⟨p, q, rfl, h1, h2⟩ y hy id n s e
 simp only [frow, List.mem_cons, List.not_mem_nil, or_false] at hy
 subst e
 rcases hy with hy | hy | hy | hy | hy | hy | hy | hy <;> first | (cases hy; done) | skip
 exact h1.id_lt hy.symm
 exact h2.id_lt hy.symm
 rintro lo lo' H row x ⟨p, q, rfl, h1, h2⟩ hl
 exact ⟨p, q, rfl, h1.lower hl, h2.lower hl⟩
theorem stableJob : Stable JobAt := by
 refine ⟨?_, ?_, ?_⟩
 rintro lo H H' row x ⟨p, q, rfl, h1, h2⟩ hn hb
 exact ⟨p, q, rfl, h1.stay hn fun id n s e => hb p (by simp [jrow]) id n s e, h2.stay hn fun id n s e => hb q (by simp [jrow]) id n s e⟩
 rintro lo H row x ⟨p, q, rfl, h1, h2⟩ y hy id n s e
 simp only [jrow, List.mem_cons, List.not_mem_nil, or_false] at hy
 subst e
 rcases hy with hy | hy | hy | hy | hy | hy | hy <;> first | (cases hy; done) | skip
 exact h1.id_lt hy.symm
 exact h2.id_lt hy.symm
 rintro lo lo' H row x ⟨p, q, rfl, h1, h2⟩ hl
 exact ⟨p, q, rfl, h1.lower hl, h2.lower hl⟩
theorem frow_length (f : DFlat) (p q : PV) : (frow f p q).length = 8 := rfl
theorem jrow_length (f : DJob) (p q : PV) : (jrow f p q).length = 7 := rfl
theorem frow_ok {lo lo' : Nat} {H : AS} {f : DFlat} {p q : PV} {a b : List (List PV)} (h1 : OutIs lo H p 10 a) (h2 : OutIs lo' H q 3 b) : (PV.agg (frow f p q)).okCells = true := by simp [frow, PV.okCells, h1.atomic, h2.atomic]
theorem jrow_ok {lo lo' : Nat} {H : AS} {f : DJob} {p q : PV} {a b : List (List PV)} (h1 : OutIs lo H p 1 a) (h2 : OutIs lo' H q 1 b) : (PV.agg (jrow f p q)).okCells = true := by simp [jrow, PV.okCells, h1.atomic, h2.atomic]
theorem frow_ok' {lo : Nat} {H : AS} {f : DFlat} {p q : PV} (h : FlatAt lo H (frow f p q) f) : (PV.agg (frow f p q)).okCells = true := by
 obtain ⟨p', q', e, h1, h2⟩ := h
 rw [e]; exact frow_ok h1 h2
theorem jrow_ok' {lo : Nat} {H : AS} {f : DJob} {p q : PV} (h : JobAt lo H (jrow f p q) f) : (PV.agg (jrow f p q)).okCells = true := by
 obtain ⟨p', q', e, h1, h2⟩ := h
 rw [e]; exact jrow_ok h1 h2
theorem part_frow (f : DFlat) (p q : PV) : partOf Tryz.prog 48 (frow f p q) 0 = some (.agg (frow f p q)) := by simp [partOf, frow]
theorem part_jrow (f : DJob) (p q : PV) : partOf Tryz.prog 55 (jrow f p q) 0 = some (.agg (jrow f p q)) := by simp [partOf, jrow]
theorem splice_frow (a b c d e f g h : PV) (x : DFlat) (p q : PV) : splice [a, b, c, d, e, f, g, h] 0 (frow x p q) = frow x p q := by simp [splice, frow]
theorem splice_jrow (a b c d e f g : PV) (x : DJob) (p q : PV) : splice [a, b, c, d, e, f, g] 0 (jrow x p q) = jrow x p q := by simp [splice, jrow]
theorem flatsO (H : AS) (id : Nat) (bs : List UInt8) (c : Nat) (s : RS) (hr : RdOk H id bs c s) : ACalls Tryz.prog 24 [.ptr id 1 0 0, .bound 25 [.ptr id 1 0 0]] H fun q H' => ListAt FlatAt 8 H.next H'.next H' q (rdList bs rdFlat s).1 ∧ (H.setBox id [rrow bs c (rdList bs rdFlat s).2]).Ext H' := by
 refine ACalls_open Tryz.func24 rfl (by kernel_rfl) (by simp) fun hwf hbel => ?_
 have hid := hr.lt hwf
 have hle := hr.le
 have hsm := hr.small
 have hmm := rdMany_small (s := s) hle
 refine T_sr fun K0 hK0 => ?_
 simp [frame0]
 apply hK0
 refine T_sr fun K1 hK1 => ?_
 simp [frame0]
 apply hK1
 refine T_seqk fun K2 hK2 => ?_
 refine T_sr fun K3 hK3 => ?_
 simp [frame0]
 refine callK.of (manyIs _ id bs c s hr) ?_
 rintro _ Hz ⟨rfl, hz⟩
 subst Hz
 simp [frame0]
 apply hK3
 refine T_block ?_
 refine T_loop (fun k F H' => ∃ (i : Nat) (acc : List DFlat) (s1 : RS), k = (rdMany bs s).1 - i ∧ i ≤ (rdMany bs s).1 ∧ F 0 = .ptr id 1 0 0 ∧ F 1 = .bound 25 [.ptr id 1 0 0] ∧ F 8 = pi (rdMany bs s).1 ∧ F 9 = pi i ∧ Rdg H H' id bs c s1 ∧ ListAt FlatAt 8 H.next H'.next H' (F 5) acc ∧ acc.length = i ∧ rdGo (rdFlat bs) (rdMany bs s).1 [] (rdMany bs s).2 = rdGo (rdFlat bs) ((rdMany bs s).1 - i) acc s1) ((rdMany bs s).1) ?_ ?_
 refine ⟨0, [], (rdMany bs s).2, ?_⟩
 simp [frame0]
 exact ⟨(Rdg.start hr).step (rdMany_le hle), .nil (Nat.le_refl _)⟩
 rintro k F H1 ⟨i, acc, s1, rfl, hile, g0, g1, g8, g9, hg, hL, hal, hgo⟩
 refine T_sr fun K4 hK4 => ?_
 simp [aBin, aBinV, frame0, g0, g1, g8, g9]
 apply hK4
 refine T_seqk fun K5 hK5 => ?_
 refine T_cond (by first | rfl | exact g0 | exact g1 | exact g8 | exact g9) (fun c0 => ?_) (fun c0 => ?_)
 have hlt : i < (rdMany bs s).1 := by simp at c0; omega
 have hn1 : H.next ≤ H1.next := by have := hg.ext.next; simpa using this
 refine T_skip ?_
 try simp only [kn]
 apply hK5
 refine T_seqk fun K6 hK6 => ?_
 refine T_block ?_
 refine T_mid (fun F H' => F 0 = .ptr id 1 0 0 ∧ F 1 = .bound 25 [.ptr id 1 0 0] ∧ F 8 = pi (rdMany bs s).1 ∧ F 9 = pi i ∧ ∃ (k1 : Nat) (p1 p2 : PV), F 6 = .ptr k1 1 0 0 ∧ Rdg H H' id bs c (rdFlat bs s1).2 ∧ H'.box k1 = some [(frow (rdFlat bs s1).1 p1 p2)] ∧ FlatAt H1.next H' (frow (rdFlat bs s1).1 p1 p2) (rdFlat bs s1).1 ∧ ListAt FlatAt 8 H.next H1.next H' (F 5) acc ∧ k1 < H'.next ∧ H1.next ≤ k1) ?_ ?_
 refine T_rg ?_
 simp [astore, frame0, g0, g1, g8, g9, splice_frow, alloc_48]
 refine callK.of (flatO _ id bs c _ hg.ok) ?_
 rintro _ H2 ⟨p1, p2, rfl, ho1, ho2, he2⟩
 have hidn : id < H1.next := by have := hg.ext.next; simp at this; omega
 have hn2 := he2.next
 simp at hn2
 have hg2 := (hg.step (rdFlat_le hg.ok.le)).grow he2 (by simpa using hidn)
 simp [astore, frame0, g0, g1, g8, g9, splice_frow, alloc_48, frow_ok ho1 ho2, frow_length]
 have hb2 : ∀ j, H.next ≤ j → j < H1.next → H2.box j = H1.box j := fun j h1 h2 => by rw [he2.box j (by simpa using h2)]; simp [show j ≠ id by omega]
 have hk : ∀ j, j < H2.next → (((H2.setBox H2.next [[PV.val (Value.string { data := #[] }), pi 0, pi 0, pi 0, pi 0, pi 0, PV.nil, PV.nil]]).bump 1).setBox H2.next [(frow (rdFlat bs s1).1 p1 p2)]).box j = H2.box j := fun j hl => by simp [show j ≠ H2.next by omega]
 exact ⟨((hg2.other (by omega) hid).bump).other (by omega) hid, p1, p2, rfl, ⟨p1, p2, rfl, ho1.keep (by simp) (fun j _ hl => hk j hl), ho2.keep (by simp) (fun j _ hl => hk j hl)⟩, hL.keep stableFlat (Nat.le_refl _) (by simp; omega) (by simp; omega) (fun j hl1 hl => (hk j (by omega)).trans (hb2 j hl1 hl)), hn2⟩
 rintro F H' ⟨g0, g1, g8, g9, k1, p1, p2, g6, hg, b6, hE, hL, hlt1, hk1⟩
 refine T_seqk fun K7 hK7 => ?_
 refine T_sr fun K8 hK8 => ?_
 simp [aFieldAddr, aload, partOf, aBin, aBinV, frame0, g0, g1, g8, g9, g6, hg.ok.box, rrow, int_bne]
 apply hK8
 refine T_cond (by first | rfl | exact g0 | exact g1 | exact g8 | exact g9 | exact g0 | exact g1 | exact g8 | exact g9 | exact g6) (fun c1 => ?_) (fun c1 => ?_)
 have he : ¬ (rdFlat bs s1).2.e = 0 := by simpa using c1
 refine T_sr fun K9 hK9 => ?_
 simp [frame0, g0, g1, g8, g9, g6]
 apply hK9
 refine T_ret ?_
 try simp only [kr]
 have e : rdList bs rdFlat s = ([], (rdFlat bs s1).2) := by
   unfold rdList; rw [hgo, show (rdMany bs s).1 - i = ((rdMany bs s).1 - (i + 1)) + 1 by omega, rdGo, if_neg he]
 exact owesO_one (.inr rfl) rfl ⟨by rw [e]; exact .nil (Nat.le_refl _), by rw [e]; exact hg.ext⟩
 have he : (rdFlat bs s1).2.e = 0 := by simpa using c1
 refine T_skip ?_
 try simp only [kn]
 apply hK7
 refine T_rg ?_
 simp [aload, abuildSlice, frame0, g0, g1, g8, g9, g6, b6, part_frow, frow_length, frow_ok' hE]
 refine eitherK.raw ?_
 have hL1 := hL.keep stableFlat (hi' := H1.next) (H' := (H'.setBox H'.next [(frow (rdFlat bs s1).1 p1 p2)]).bump 1) (Nat.le_refl _) (by simp; omega) (by simp) (fun j _ hl => by simp [show j ≠ H'.next by omega])
 have hE1 := stableFlat.stay (H' := (H'.setBox H'.next [(frow (rdFlat bs s1).1 p1 p2)]).bump 1) hE (by simp) (fun q hq j n s e => by have := (stableFlat.ids hE q hq j n s e).2; simp [show j ≠ H'.next by omega])
 obtain ⟨rows, ho, hrl, hhi, hpl, hro, hap⟩ := hL1
 simp [aload, abuildSlice, frame0, g0, g1, g8, g9, g6, b6, part_frow, frow_length, frow_ok' hE]
 refine appendK.of (aappend_outR (lo := H.next) (rows := rows) (ys := [(frow (rdFlat bs s1).1 p1 p2)]) ho ?_ rfl rfl Tryz.sz48 Tryz.zero48 Tryz.by48 rfl rfl (by decide) ?_ ?_ ?_)
 have := hg.ext.next; simp at this ⊢; omega
 simp [srcOf]
 refine .inl ?_; simp; omega
 intro p3 H3 hout2 hab hel
 have hL3 := ListAt.push stableFlat ho hrl hhi hpl hro hap (stableFlat.lower hE1 hn1) (fun q hq j n s e => (stableFlat.ids hE q hq j n s e).1) hout2 hel
 have hext3 : (H.setBox id [rrow bs c (rdFlat bs s1).2]).Ext H3 := hab _ (by simp) (.bump (.setBox (by have := hg.ext.next; simp at this ⊢; omega) hg.ext))
 have hg3 : Rdg H H3 id bs c (rdFlat bs s1).2 := ⟨⟨by rw [hext3.box id (by simpa using hid)]; simp, hg.ok.le, hg.ok.small⟩, hext3⟩
 simp [aload, abuildSlice, frame0, g0, g1, g8, g9, g6, b6, part_frow, frow_length, frow_ok' hE]
 apply hK6
 refine T_rg ?_
 simp [aBin, aBinV, frame0, g0, g1, g8, g9, g6]
 refine ⟨(rdMany bs s).1 - (i + 1), by omega, i + 1, rfl, by omega, by rw [wrap_i64 (by omega) (by omega)]; rfl, acc ++ [(rdFlat bs s1).1], (rdFlat bs s1).2, hg3, hL3, by simp [hal], ?_⟩
 rw [hgo, show (rdMany bs s).1 - i = ((rdMany bs s).1 - (i + 1)) + 1 by omega, rdGo, if_pos he]
 have hge : i = (rdMany bs s).1 := by simp at c0; omega
 subst hge
 refine T_exit ?_
 try simp only [ke, kn, if_true, if_false, Nat.reduceEqDiff, reduceIte]
 apply hK2
 refine T_sr fun K10 hK10 => ?_
 simp [frame0, g0, g1, g8, g9]
 apply hK10
 refine T_ret ?_
 try simp only [kr]
 have e : rdList bs rdFlat s = (acc, s1) := by
   unfold rdList; rw [hgo, Nat.sub_self]; rfl
 exact owesO_one (.inr rfl) rfl ⟨by rw [e]; exact hL, by rw [e]; exact hg.ext⟩
theorem jobsO (H : AS) (id : Nat) (bs : List UInt8) (c : Nat) (s : RS) (hr : RdOk H id bs c s) : ACalls Tryz.prog 26 [.ptr id 1 0 0, .bound 27 [.ptr id 1 0 0]] H fun q H' => ListAt JobAt 7 H.next H'.next H' q (rdList bs rdJob s).1 ∧ (H.setBox id [rrow bs c (rdList bs rdJob s).2]).Ext H' := by
 refine ACalls_open Tryz.func26 rfl (by kernel_rfl) (by simp) fun hwf hbel => ?_
 have hid := hr.lt hwf
 have hle := hr.le
 have hsm := hr.small
 have hmm := rdMany_small (s := s) hle
 refine T_sr fun K0 hK0 => ?_
 simp [frame0]
 apply hK0
 refine T_sr fun K1 hK1 => ?_
 simp [frame0]
 apply hK1
 refine T_seqk fun K2 hK2 => ?_
 refine T_sr fun K3 hK3 => ?_
 simp [frame0]
 refine callK.of (manyIs _ id bs c s hr) ?_
 rintro _ Hz ⟨rfl, hz⟩
 subst Hz
 simp [frame0]
 apply hK3
 refine T_block ?_
 refine T_loop (fun k F H' => ∃ (i : Nat) (acc : List DJob) (s1 : RS), k = (rdMany bs s).1 - i ∧ i ≤ (rdMany bs s).1 ∧ F 0 = .ptr id 1 0 0 ∧ F 1 = .bound 27 [.ptr id 1 0 0] ∧ F 8 = pi (rdMany bs s).1 ∧ F 9 = pi i ∧ Rdg H H' id bs c s1 ∧ ListAt JobAt 7 H.next H'.next H' (F 5) acc ∧ acc.length = i ∧ rdGo (rdJob bs) (rdMany bs s).1 [] (rdMany bs s).2 = rdGo (rdJob bs) ((rdMany bs s).1 - i) acc s1) ((rdMany bs s).1) ?_ ?_
 refine ⟨0, [], (rdMany bs s).2, ?_⟩
 simp [frame0]
 exact ⟨(Rdg.start hr).step (rdMany_le hle), .nil (Nat.le_refl _)⟩
 rintro k F H1 ⟨i, acc, s1, rfl, hile, g0, g1, g8, g9, hg, hL, hal, hgo⟩
 refine T_sr fun K4 hK4 => ?_
 simp [aBin, aBinV, frame0, g0, g1, g8, g9]
 apply hK4
 refine T_seqk fun K5 hK5 => ?_
 refine T_cond (by first | rfl | exact g0 | exact g1 | exact g8 | exact g9) (fun c0 => ?_) (fun c0 => ?_)
 have hlt : i < (rdMany bs s).1 := by simp at c0; omega
 have hn1 : H.next ≤ H1.next := by have := hg.ext.next; simpa using this
 refine T_skip ?_
 try simp only [kn]
 apply hK5
 refine T_seqk fun K6 hK6 => ?_
 refine T_block ?_
 refine T_mid (fun F H' => F 0 = .ptr id 1 0 0 ∧ F 1 = .bound 27 [.ptr id 1 0 0] ∧ F 8 = pi (rdMany bs s).1 ∧ F 9 = pi i ∧ ∃ (k1 : Nat) (p1 p2 : PV), F 6 = .ptr k1 1 0 0 ∧ Rdg H H' id bs c (rdJob bs s1).2 ∧ H'.box k1 = some [(jrow (rdJob bs s1).1 p1 p2)] ∧ JobAt H1.next H' (jrow (rdJob bs s1).1 p1 p2) (rdJob bs s1).1 ∧ ListAt JobAt 7 H.next H1.next H' (F 5) acc ∧ k1 < H'.next ∧ H1.next ≤ k1) ?_ ?_
 refine T_rg ?_
 simp [astore, frame0, g0, g1, g8, g9, splice_jrow, alloc_55]
 refine callK.of (jobO _ id bs c _ hg.ok) ?_
 rintro _ H2 ⟨p1, p2, rfl, ho1, ho2, he2⟩
 have hidn : id < H1.next := by have := hg.ext.next; simp at this; omega
 have hn2 := he2.next
 simp at hn2
 have hg2 := (hg.step (rdJob_le hg.ok.le)).grow he2 (by simpa using hidn)
 simp [astore, frame0, g0, g1, g8, g9, splice_jrow, alloc_55, jrow_ok ho1 ho2, jrow_length]
 have hb2 : ∀ j, H.next ≤ j → j < H1.next → H2.box j = H1.box j := fun j h1 h2 => by rw [he2.box j (by simpa using h2)]; simp [show j ≠ id by omega]
 have hk : ∀ j, j < H2.next → (((H2.setBox H2.next [[PV.val (Value.string { data := #[] }), pi 0, pi 0, pi 0, PV.nil, PV.nil, pi 0]]).bump 1).setBox H2.next [(jrow (rdJob bs s1).1 p1 p2)]).box j = H2.box j := fun j hl => by simp [show j ≠ H2.next by omega]
 exact ⟨((hg2.other (by omega) hid).bump).other (by omega) hid, p1, p2, rfl, ⟨p1, p2, rfl, ho1.keep (by simp) (fun j _ hl => hk j hl), ho2.keep (by simp) (fun j _ hl => hk j hl)⟩, hL.keep stableJob (Nat.le_refl _) (by simp; omega) (by simp; omega) (fun j hl1 hl => (hk j (by omega)).trans (hb2 j hl1 hl)), hn2⟩
 rintro F H' ⟨g0, g1, g8, g9, k1, p1, p2, g6, hg, b6, hE, hL, hlt1, hk1⟩
 refine T_seqk fun K7 hK7 => ?_
 refine T_sr fun K8 hK8 => ?_
 simp [aFieldAddr, aload, partOf, aBin, aBinV, frame0, g0, g1, g8, g9, g6, hg.ok.box, rrow, int_bne]
 apply hK8
 refine T_cond (by first | rfl | exact g0 | exact g1 | exact g8 | exact g9 | exact g0 | exact g1 | exact g8 | exact g9 | exact g6) (fun c1 => ?_) (fun c1 => ?_)
 have he : ¬ (rdJob bs s1).2.e = 0 := by simpa using c1
 refine T_sr fun K9 hK9 => ?_
 simp [frame0, g0, g1, g8, g9, g6]
 apply hK9
 refine T_ret ?_
 try simp only [kr]
 have e : rdList bs rdJob s = ([], (rdJob bs s1).2) := by
   unfold rdList; rw [hgo, show (rdMany bs s).1 - i = ((rdMany bs s).1 - (i + 1)) + 1 by omega, rdGo, if_neg he]
 exact owesO_one (.inr rfl) rfl ⟨by rw [e]; exact .nil (Nat.le_refl _), by rw [e]; exact hg.ext⟩
 have he : (rdJob bs s1).2.e = 0 := by simpa using c1
 refine T_skip ?_
 try simp only [kn]
 apply hK7
 refine T_rg ?_
 simp [aload, abuildSlice, frame0, g0, g1, g8, g9, g6, b6, part_jrow, jrow_length, jrow_ok' hE]
 refine eitherK.raw ?_
 have hL1 := hL.keep stableJob (hi' := H1.next) (H' := (H'.setBox H'.next [(jrow (rdJob bs s1).1 p1 p2)]).bump 1) (Nat.le_refl _) (by simp; omega) (by simp) (fun j _ hl => by simp [show j ≠ H'.next by omega])
 have hE1 := stableJob.stay (H' := (H'.setBox H'.next [(jrow (rdJob bs s1).1 p1 p2)]).bump 1) hE (by simp) (fun q hq j n s e => by have := (stableJob.ids hE q hq j n s e).2; simp [show j ≠ H'.next by omega])
 obtain ⟨rows, ho, hrl, hhi, hpl, hro, hap⟩ := hL1
 simp [aload, abuildSlice, frame0, g0, g1, g8, g9, g6, b6, part_jrow, jrow_length, jrow_ok' hE]
 refine appendK.of (aappend_outR (lo := H.next) (rows := rows) (ys := [(jrow (rdJob bs s1).1 p1 p2)]) ho ?_ rfl rfl Tryz.sz55 Tryz.zero55 Tryz.by55 rfl rfl (by decide) ?_ ?_ ?_)
 have := hg.ext.next; simp at this ⊢; omega
 simp [srcOf]
 refine .inl ?_; simp; omega
 intro p3 H3 hout2 hab hel
 have hL3 := ListAt.push stableJob ho hrl hhi hpl hro hap (stableJob.lower hE1 hn1) (fun q hq j n s e => (stableJob.ids hE q hq j n s e).1) hout2 hel
 have hext3 : (H.setBox id [rrow bs c (rdJob bs s1).2]).Ext H3 := hab _ (by simp) (.bump (.setBox (by have := hg.ext.next; simp at this ⊢; omega) hg.ext))
 have hg3 : Rdg H H3 id bs c (rdJob bs s1).2 := ⟨⟨by rw [hext3.box id (by simpa using hid)]; simp, hg.ok.le, hg.ok.small⟩, hext3⟩
 simp [aload, abuildSlice, frame0, g0, g1, g8, g9, g6, b6, part_jrow, jrow_length, jrow_ok' hE]
 apply hK6
 refine T_rg ?_
 simp [aBin, aBinV, frame0, g0, g1, g8, g9, g6]
 refine ⟨(rdMany bs s).1 - (i + 1), by omega, i + 1, rfl, by omega, by rw [wrap_i64 (by omega) (by omega)]; rfl, acc ++ [(rdJob bs s1).1], (rdJob bs s1).2, hg3, hL3, by simp [hal], ?_⟩
 rw [hgo, show (rdMany bs s).1 - i = ((rdMany bs s).1 - (i + 1)) + 1 by omega, rdGo, if_pos he]
 have hge : i = (rdMany bs s).1 := by simp at c0; omega
 subst hge
 refine T_exit ?_
 try simp only [ke, kn, if_true, if_false, Nat.reduceEqDiff, reduceIte]
 apply hK2
 refine T_sr fun K10 hK10 => ?_
 simp [frame0, g0, g1, g8, g9]
 apply hK10
 refine T_ret ?_
 try simp only [kr]
 have e : rdList bs rdJob s = (acc, s1) := by
   unfold rdList; rw [hgo, Nat.sub_self]; rfl
 exact owesO_one (.inr rfl) rfl ⟨by rw [e]; exact hL, by rw [e]; exact hg.ext⟩
theorem encodeO (H : AS) (c : Nat) (m : DImage) (hmc : m.cells.length < 2 ^ 62) (hmd : m.codes.length < 2 ^ 62) (hmj : m.jobs.length < 2 ^ 62) (hsz : ∀ f ∈ m.codes, f.ops.length < 2 ^ 62 ∧ f.loops.length < 2 ^ 62) (hsa : ∀ x ∈ m.cells, x.addr.size ≤ 281474976710656) (hok : checkE m = 0) (hl : (encFile m).length ≤ 4194304) : ACalls Tryz.prog 8 [.agg (m.row c)] H fun q H' => ∃ j, H.next ≤ j ∧ j < H'.next ∧ q = .tuple [.msl j (encFile m).length 1, pi 0] ∧ H'.box j = some ((encFile m).map brow) ∧ H.Ext H' := by
 refine ACalls_open Tryz.func8 rfl (by kernel_rfl) (by simp) fun hwf hbel => ?_
 refine T_sr fun K0 hK0 => ?_
 simp [abox, frame0, abox_image]
 apply hK0
 refine T_seqk fun K1 hK1 => ?_
 refine T_sr fun K2 hK2 => ?_
 simp [aload, partOf, aExtract, frame0, DImage.row]
 refine callK.of (checkIs _ c m hmc hmd hmj hsz hsa) ?_
 rintro _ Hz ⟨⟨ca, cb, rfl⟩, hz⟩
 subst Hz
 simp [aload, partOf, aExtract, frame0, DImage.row]
 apply hK2
 refine T_sr fun K3 hK3 => ?_
 simp [aBin, aBinV, frame0, int_bne]
 apply hK3
 refine T_cond (rfl) (fun c0 => ?_) (fun c0 => ?_)
 rw [hok] at c0
 exact absurd c0 (by decide) --done
 refine T_skip ?_
 try simp only [kn]
 apply hK1
 refine T_sr fun K4 hK4 => ?_
 simp [aBuild, aBuild.go, splice, abox, frame0]
 apply hK4
 refine T_sr fun K5 hK5 => ?_
 have hsize := encImage_le (okImg hok)
 simp [aload, partOf, frame0, DImage.row]
 refine callK.of (wImage _ (H.next + 1) (H.next + 2) [] .nil m c ⟨by simp, .nil, by simp, by simp⟩ (by simp; omega)) ?_
 rintro _ H3 ⟨rfl, p3, hw3, hwr3'⟩
 have hwr3 : Wrote (H.next + 1) .nil p3 H H3 := hwr3'.ext (.bump (.setBox (by simp) (.bump (.setBox (Nat.le_refl _) (.refl _)))))
 clear hwr3'
 rw [List.nil_append] at hw3
 obtain ⟨j, hj1, rfl, hj3⟩ := outMsl hw3.out (encImage_ne m)
 simp [aload, partOf, frame0, DImage.row]
 apply hK5
 refine T_sr fun K6 hK6 => ?_
 simp [aFieldAddr, aload, partOf, frame0, hw3.box]
 refine callK.of (sumMsl _ (encImage m) (by omega) j hj3) ?_
 rintro _ Hz ⟨rfl, hz⟩
 subst Hz
 simp [aFieldAddr, aload, partOf, frame0, hw3.box]
 apply hK6
 refine T_seqk fun K7 hK7 => ?_
 refine T_sr fun K8 hK8 => ?_
 simp [frame0]
 apply hK8
 refine T_block ?_
 refine T_loop (fun k F H' => ∃ (i : Nat) (p1 : PV), k = 4 - i ∧ i ≤ 4 ∧ F 7 = .ptr (H.next + 1) 1 0 0 ∧ F 8 = v32 (crc (encImage m)) ∧ F 29 = pi i ∧ F 2 = .nil ∧ W H' (H.next + 1) (H.next + 2) (encImage m ++ (le4 (crc (encImage m))).take i) p1 ∧ Wrote (H.next + 1) .nil p1 H H') (4) ?_ ?_
 refine ⟨0, .msl j (encImage m).length 1, ?_⟩
 simp
 exact ⟨hw3, hwr3⟩
 rintro k F H4 ⟨i, p1, rfl, hi, g7, g8, g29, g2, hw1, hwr1⟩
 refine T_sr fun K9 hK9 => ?_
 simp [aBin, aBinV, frame0, g7, g8, g29, g2]
 apply hK9
 refine T_seqk fun K10 hK10 => ?_
 refine T_cond (by first | rfl | exact g7 | exact g8 | exact g29 | exact g2) (fun c1 => ?_) (fun c1 => ?_)
 have hi4 : i < 4 := by simp at c1; omega
 refine T_skip ?_
 try simp only [kn]
 apply hK10
 refine T_seqk fun K11 hK11 => ?_
 refine T_block ?_
 refine T_sr fun K12 hK12 => ?_
 simp [frame0, g7, g8, g29, g2]
 apply hK12
 refine T_rg ?_
 simp [aBin, aBinV, aConvert, frame0, g7, g8, g29, g2, v32, w8 (show i < 8 by omega)]
 refine callK.of (wByte _ (H.next + 1) (H.next + 2) (encImage m ++ (le4 (crc (encImage m))).take i) p1 _ hw1 (by simp [le4_length]; omega)) ?_
 rintro _ H2 ⟨rfl, p2, hw2, hwr2⟩
 simp [aBin, aBinV, aConvert, frame0, g7, g8, g29, g2, v32, w8 (show i < 8 by omega)]
 apply hK11
 refine T_rg ?_
 simp [aBin, aBinV, frame0, g7, g8, g29, g2]
 refine ⟨4 - (i + 1), by omega, i + 1, rfl, by omega, by rw [wrap_i64 (by omega) (by omega)]; rfl, p2, ?_, hwr1.trans hwr2⟩
 rw [le4_take _ hi4, ← List.append_assoc]
 rw [show min (8 * (i : Int)).toNat IntKind.u32.bits = 8 * i by simp [IntKind.bits]; omega, sh32] at hw2
 exact hw2
 have hge : i = 4 := by simp at c1; omega
 refine T_exit ?_
 try simp only [ke, kn, if_true, if_false, Nat.reduceEqDiff, reduceIte]
 apply hK7
 refine T_seqk fun K13 hK13 => ?_
 refine T_sr fun K14 hK14 => ?_
 have hall : (le4 (crc (encImage m))).take i = le4 (crc (encImage m)) := List.take_of_length_le (by rw [le4_length]; omega)
 rw [hall] at hw1
 obtain ⟨j2, hj4, rfl, hj6⟩ := outMsl hw1.out (encImage_app m _)
 simp [aFieldAddr, aload, partOf, aLen, aBin, aBinV, frame0, g7, g8, g29, g2, hw1.box, lenOf]
 apply hK14
 refine T_cond (by first | rfl | exact g7 | exact g8 | exact g29 | exact g2) (fun c2 => ?_) (fun c2 => ?_)
 have hlong := of_decide_eq_true c2
 have := encFile_length m
 simp [le4_length] at hlong
 omega --done
 refine T_skip ?_
 try simp only [kn]
 apply hK13
 refine T_sr fun K15 hK15 => ?_
 simp [aFieldAddr, aload, partOf, frame0, g7, g8, g29, g2, hw1.box]
 apply hK15
 refine T_ret ?_
 try simp only [kr]
 have hout := hw1.out
 have hex := hwr1.toExt (by omega)
 refine ⟨.inr rfl, ?_⟩
 rw [show Tryz.f8.results.toList = [.tmp 2, .tmp 3] from rfl]
 simp [aResults, packed, g2]
 exact ⟨j2, by omega, (hout.id_lt rfl).2, ⟨rfl, by simp [encFile]⟩, hj6, hex⟩
theorem fz_out {lo sz : Nat} {H : AS} {p : PV} {rows : List (List PV)} (d : Nat) (h : OutIs lo H p sz rows) (hp : ∀ r ∈ rows, ∀ q ∈ r, Pl q) : Fz H d p (PV.sl d sz rows) := by
 rcases h with ⟨rfl, rfl⟩ | ⟨id, _, _, rfl, hb⟩
 exact .nil
 exact .msl hb rfl rfl (fun i r r' e e' => by rw [e] at e'; cases e'; rfl) (fun i r r' j p p' e e' f f' => by rw [e] at e'; cases e'; rw [f] at f'; cases f'; exact .same (hp r (List.mem_of_getElem? e) p (List.mem_of_getElem? f)))
def FzRow (H : AS) (d : Nat) : List PV → List PV → Prop
 | [], [] => True
 | p :: ps, q :: qs => Fz H d p q ∧ FzRow H d ps qs
 | _, _ => False
theorem FzRow.get {H : AS} {d : Nat} : ∀ {l l' : List PV}, FzRow H d l l' → l'.length = l.length ∧ ∀ (j : Nat) (p p' : PV), l[j]? = some p → l'[j]? = some p' → Fz H d p p'
 | [], [], _ => ⟨rfl, fun j p p' h => by simp at h⟩
 | p :: ps, q :: qs, h => by
  obtain ⟨h1, h2⟩ := h.2.get
  refine ⟨by simp [h1], fun j a b ha hb => ?_⟩
  cases j with
  | zero => simp at ha hb; subst ha; subst hb; exact h.1
  | succ j => exact h2 j a b (by simpa using ha) (by simpa using hb)
 | [], _ :: _, h => h.elim
 | _ :: _, [], h => h.elim
theorem fz_list {α : Type} {E : Nat → AS → List PV → α → Prop} {R : α → List PV} {sz lo hi : Nat} {H : AS} {p : PV} {xs : List α} (d : Nat) (hR : ∀ {row : List PV} {x : α}, E lo H row x → FzRow H d row (R x)) (h : ListAt E sz lo hi H p xs) : Fz H d p (PV.sl d sz (xs.map R)) := by
 obtain ⟨rows, g1, g2, _, _, g5, _⟩ := h
 have key : ∀ (i : Nat) (r r' : List PV), rows[i]? = some r → (xs.map R)[i]? = some r' → FzRow H d r r' := fun i r r' e e' => by
  rw [List.getElem?_map] at e'
  simp only [Option.map_eq_some_iff] at e'
  obtain ⟨x, hx, rfl⟩ := e'
  exact hR (g5 i r x e hx).1
 rcases g1 with ⟨rfl, rfl⟩ | ⟨id, _, _, rfl, hb⟩
 have : xs = [] := List.length_eq_zero_iff.1 (by rw [← g2]; rfl)
 subst this; exact .nil
 exact .msl hb rfl (by simp [g2]) (fun i r r' e e' => (key i r r' e e').get.1) (fun i r r' j p p' e e' f f' => (key i r r' e e').get.2 j p p' f f')
theorem pl_v (v : Value) : Pl (.val v) := .val v
theorem pl_op (x : DOp) : ∀ q ∈ x.row, Pl q := by simp [DOp.row, pl_v]
theorem pl_loop (x : DLoop) : ∀ q ∈ x.row, Pl q := by simp [DLoop.row]; exact ⟨.val _, .val _, .val _⟩
theorem pl_irow (x : Int) : ∀ q ∈ irow x, Pl q := by simp [irow]; exact .val _
theorem pl_cell (x : DCell) : ∀ q ∈ x.row, Pl q := by simp [DCell.row, pl_v]
theorem pl_map {α : Type} {R : α → List PV} {xs : List α} (h : ∀ x, ∀ q ∈ R x, Pl q) : ∀ r ∈ xs.map R, ∀ q ∈ r, Pl q := fun r hr q hq => by
 obtain ⟨x, _, rfl⟩ := List.mem_map.1 hr; exact h x q hq
theorem flatFz {lo : Nat} {H : AS} {d : Nat} {row : List PV} {x : DFlat} (h : FlatAt lo H row x) : FzRow H d row (x.row d) := by
 obtain ⟨p, q, rfl, h1, h2⟩ := h
 exact ⟨.same (.val _), .same (.val _), .same (.val _), .same (.val _), .same (.val _), .same (.val _), fz_out d h1 (pl_map pl_op), fz_out d h2 (pl_map pl_loop), trivial⟩
theorem jobFz {lo : Nat} {H : AS} {d : Nat} {row : List PV} {x : DJob} (h : JobAt lo H row x) : FzRow H d row (x.row d) := by
 obtain ⟨p, q, rfl, h1, h2⟩ := h
 exact ⟨.same (.val _), .same (.val _), .same (.val _), .same (.val _), fz_out d h1 (pl_map pl_irow), fz_out d h2 (pl_map pl_irow), .same (.val _), trivial⟩
structure ImgAt (lo hi : Nat) (H : AS) (row : List PV) (m : DImage) : Prop where
 go : ∃ p1 p2 p3, row = [ps m.name, p1, p2, p3] ∧ ListAt (fun _ _ r x => r = DCell.row x) 11 lo hi H p1 m.cells ∧ ListAt FlatAt 8 lo hi H p2 m.codes ∧ ListAt JobAt 7 lo hi H p3 m.jobs
theorem stableCell : Stable (fun _ _ r x => r = DCell.row x) := by
 refine ⟨fun h _ _ => h, fun h q hq id n s e => ?_, fun h _ => h⟩
 subst h; subst e
 simp [DCell.row] at hq
theorem out_cells {lo : Nat} {H : AS} {p : PV} {xs : List DCell} (h : OutIs lo H p 11 (xs.map DCell.row)) : ListAt (fun _ _ r x => r = DCell.row x) 11 lo H.next H p xs := by
 refine ⟨_, h, by simp, Nat.le_refl _, fun j n s e => (h.id_lt e).2, fun i row x hr hx => ?_, fun i j ri rj _ hi hj q hq q' hq' id n s n' s' e => ?_⟩
 rw [List.getElem?_map, hx] at hr
 simp at hr; subst hr
 refine ⟨rfl, fun q hq id n s e => ?_⟩
 subst e; simp [DCell.row] at hq
 rw [List.getElem?_map] at hi
 simp only [Option.map_eq_some_iff] at hi
 obtain ⟨x, _, rfl⟩ := hi
 subst e; simp [DCell.row] at hq
theorem fzrow_same {H : AS} {d : Nat} : ∀ {l : List PV}, (∀ q ∈ l, Pl q) → FzRow H d l l
 | [], _ => trivial
 | p :: ps, h => ⟨.same (h p (by simp)), fzrow_same fun q hq => h q (by simp [hq])⟩
theorem imgFz {lo hi : Nat} {H : AS} {d : Nat} {row : List PV} {m : DImage} (h : ImgAt lo hi H row m) : Fz H d (.agg row) (.agg (m.row d)) := by
 obtain ⟨p1, p2, p3, rfl, h1, h2, h3⟩ := h
 have : FzRow H d [ps m.name, p1, p2, p3] (m.row d) := ⟨.same (.val _), fz_list d (fun e => by subst e; exact (by
  have := pl_cell
  rename_i x
  exact fzrow_same fun q hq => this x q hq)) h1, fz_list d flatFz h2, fz_list d jobFz h3, trivial⟩
 exact .agg this.get.1 this.get.2
structure Do (H H' : AS) (bs : List UInt8) (c : Nat) (s : RS) (row : List PV) : Prop where
 ok : RdOk H' (H.next + 1) bs c s
 img : H'.box (H.next + 2) = some [row]
 res : H'.box H.next = some [[ps ⟨#[]⟩, .nil, .nil, .nil]]
 ext : H.Ext H'
 nx : H.next + 3 ≤ H'.next
theorem Do.step {H H1 H2 : AS} {bs : List UInt8} {c : Nat} {s s' : RS} {row row' : List PV} (h : Do H H1 bs c s row) (hle : s'.at' ≤ bs.length) (he : (H1.setBox (H.next + 1) [rrow bs c s']).Ext H2) : Do H (H2.setBox (H.next + 2) [row']) bs c s' row' := by
 have hn := h.nx
 have hn2 := he.next
 simp at hn2
 refine ⟨⟨?_, hle, h.ok.small⟩, by simp, ?_, .setBox (by omega) ?_, by simp; omega⟩
 rw [box_setBox, if_neg (by omega), he.box _ (by simp; omega)]; simp
 rw [box_setBox, if_neg (by omega), he.box _ (by simp; omega), box_setBox, if_neg (by omega)]; exact h.res
 exact (AS.Ext.setBox (by omega) h.ext).trans he
theorem Do.lists {α : Type} {E : Nat → AS → List PV → α → Prop} (hE : Stable E) {H H1 H2 : AS} {bs : List UInt8} {c : Nat} {s s' : RS} {row row' : List PV} {sz : Nat} {p : PV} {xs : List α} (h : Do H H1 bs c s row) (he : (H1.setBox (H.next + 1) [rrow bs c s']).Ext H2) (hl : ListAt E sz (H.next + 3) H1.next H1 p xs) :
  ListAt E sz (H.next + 3) (H2.setBox (H.next + 2) [row']).next (H2.setBox (H.next + 2) [row']) p xs := by
 have hn2 := he.next
 simp at hn2
 exact hl.keep hE (by simpa using hn2) (Nat.le_refl _) (by simpa using hn2) fun id h1 h2 => by
  rw [box_setBox, if_neg (by omega), he.box _ (by simpa using h2), box_setBox, if_neg (by omega)]
theorem Do.list {α : Type} {E : Nat → AS → List PV → α → Prop} (hE : Stable E) {H H1 H2 : AS} {bs : List UInt8} {c : Nat} {s : RS} {row row' : List PV} {sz : Nat} {p : PV} {xs : List α} (h : Do H H1 bs c s row) (hl : ListAt E sz H1.next H2.next H2 p xs) (hn2 : H1.next ≤ H2.next) :
  ListAt E sz (H.next + 3) (H2.setBox (H.next + 2) [row']).next (H2.setBox (H.next + 2) [row']) p xs := by
 have := h.nx
 exact (hl.keep (H' := H2.setBox (H.next + 2) [row']) hE (Nat.le_refl _) (Nat.le_refl _) (by simp) fun id h1 h2 => by simp [show id ≠ H.next + 2 by omega]).lower hE this
theorem ListAt.okCells {α : Type} {E : Nat → AS → List PV → α → Prop} {sz lo hi : Nat} {H : AS} {p : PV} {xs : List α} (h : ListAt E sz lo hi H p xs) : p.okCells = true := by obtain ⟨rows, g1, _⟩ := h; exact g1.okCells
theorem ListAt.cells {α : Type} {E : Nat → AS → List PV → α → Prop} {sz lo hi : Nat} {H : AS} {p : PV} {xs : List α} (h : ListAt E sz lo hi H p xs) : p.cells = [p] := by obtain ⟨rows, g1, _⟩ := h; exact g1.cells
theorem ImgAt.keep {lo lo' hi : Nat} {H H' : AS} {row : List PV} {m : DImage} (h : ImgAt lo hi H row m) (hl : lo' ≤ lo) (h2 : hi ≤ H'.next) (hn : H.next ≤ H'.next) (hb : ∀ id, lo ≤ id → id < hi → H'.box id = H.box id) : ImgAt lo' H'.next H' row m := by
 obtain ⟨p1, p2, p3, rfl, h1, h3, h4⟩ := h
 exact ⟨p1, p2, p3, rfl, (h1.keep stableCell h2 (Nat.le_refl _) hn hb).lower stableCell hl, (h3.keep stableFlat h2 (Nat.le_refl _) hn hb).lower stableFlat hl, (h4.keep stableJob h2 (Nat.le_refl _) hn hb).lower stableJob hl⟩
theorem decodeO (H : AS) (bs : List UInt8) (hb : bs.length < 2 ^ 62) (c : Nat) (hD : DecOk bs) : ACalls Tryz.prog 11 [PV.sl c 1 (bs.map brow)] H fun q H' => ∃ row, q = .tuple [.agg row, pi 0, pi 0] ∧ ImgAt H.next H'.next H' row (rdAll bs).1 ∧ H.Ext H' := by
 refine ACalls_open Tryz.func11 rfl (by kernel_rfl) (by simp) fun hwf hbel => ?_
 refine T_sr fun K0 hK0 => ?_
 simp [aalloc, frame0]
 apply hK0
 refine T_seqk fun K1 hK1 => ?_
 refine T_sr fun K2 hK2 => ?_
 simp [aExtract, frame0]
 refine callK.of (frameIs _ bs hb c) ?_
 rintro _ Hz ⟨⟨fa, fe, rfl, hfe⟩, hz⟩
 subst Hz
 simp [aExtract, frame0]
 apply hK2
 refine T_sr fun K3 hK3 => ?_
 simp [aBin, aBinV, frame0]
 apply hK3
 refine T_cond (rfl) (fun c0 => ?_) (fun c0 => ?_)
 exact absurd (hfe.2 hD.1) (by simpa using c0) --done
 have hok : FrameOk bs := hD.1
 have hn4 : bs.length - 4 ≤ bs.length := by omega
 have h8 := hok.2.1
 have hw4 : IntKind.i64.wrap ((bs.length : Int) - 4) = ((bs.length - 4 : Nat) : Int) := by rw [wrap_i64 (by omega) (by omega)]; omega
 have hlong := hok.1
 have hbl : (body bs).length < 2 ^ 40 := by unfold body; simp; omega
 have h4 : rs0.at' ≤ (body bs).length := by unfold body rs0; simp; omega
 refine T_skip ?_
 try simp only [kn]
 apply hK1
 refine T_sr fun K4 hK4 => ?_
 simp [aLen, aBin, aBinV, aBuild, aBuild.go, splice, abox, frame0, hw4, cut_hi hn4]
 apply hK4
 refine T_mid (fun F H' => F 2 = .ptr H.next 1 0 0 ∧ F 7 = .ptr (H.next + 1) 1 0 0 ∧ F 8 = .ptr (H.next + 2) 1 0 0 ∧ Do H H' (body bs) c (rdText (body bs) rs0).2 [ps (rdText (body bs) rs0).1, .nil, .nil, .nil]) ?_ ?_
 refine T_rg ?_
 simp [aBuild, aBuild.go, splice, aalloc, astore, frame0]
 refine callK.of (textIs _ (H.next + 1) (body bs) c rs0 ⟨by simp [rrow, rs0, body], h4, hbl⟩) ?_
 rintro _ H2 ⟨rfl, rfl⟩
 simp [aBuild, aBuild.go, splice, aalloc, astore, frame0]
 exact ⟨⟨by simp, rdText_le h4, hbl⟩, by simp, by simp [nx2], .setBox (by omega) (.bump (.setBox (by omega) (.setBox (by omega) (.bump (.setBox (by omega) (.bump (.setBox (Nat.le_refl _) (.refl _)))))))), by simp⟩
 rintro F H' ⟨g2, g7, g8, hg⟩
 have hn := hg.nx
 have b1 := hg.ok.box
 have b2 := hg.img
 have b3 := hg.res
 refine T_mid (fun F H' => F 2 = .ptr H.next 1 0 0 ∧ F 7 = .ptr (H.next + 1) 1 0 0 ∧ F 8 = .ptr (H.next + 2) 1 0 0 ∧ ∃ p1 : PV, Do H H' (body bs) c (rdList (body bs) rdCell (rdText (body bs) rs0).2).2 [ps (rdText (body bs) rs0).1, p1, .nil, .nil] ∧ ListAt (fun _ _ r x => r = DCell.row x) 11 (H.next + 3) H'.next H' p1 (rdList (body bs) rdCell (rdText (body bs) rs0).2).1) ?_ ?_
 refine T_rg ?_
 simp [aFieldAddr, astore, splice, frame0, g2, g7, g8, b2]
 refine callK.of (cellsO _ (H.next + 1) (body bs) c _ hg.ok) ?_
 rintro p1 H2 ⟨ho, he⟩
 have hn2 := he.next
 simp at hn2
 have hL := out_cells ho
 have c2 : H2.box (H.next + 2) = some [[ps (rdText (body bs) rs0).1, .nil, .nil, .nil]] := by rw [he.box _ (by simp; omega), box_setBox, if_neg (by omega)]; exact b2
 simp [aFieldAddr, astore, splice, frame0, g2, g7, g8, b2, c2, hL.cells, hL.okCells]
 exact ⟨p1, hg.step (rdList_le (fun _ => rdCell_le) (rdText_le h4)) he, Do.list stableCell hg hL hn2⟩
 rintro F H' ⟨g2, g7, g8, p1, hg, l1⟩
 have hn := hg.nx
 have b1 := hg.ok.box
 have b2 := hg.img
 have b3 := hg.res
 refine T_mid (fun F H' => F 2 = .ptr H.next 1 0 0 ∧ F 7 = .ptr (H.next + 1) 1 0 0 ∧ F 8 = .ptr (H.next + 2) 1 0 0 ∧ ∃ p1 p2 : PV, Do H H' (body bs) c (rdList (body bs) rdFlat (rdList (body bs) rdCell (rdText (body bs) rs0).2).2).2 [ps (rdText (body bs) rs0).1, p1, p2, .nil] ∧ ListAt (fun _ _ r x => r = DCell.row x) 11 (H.next + 3) H'.next H' p1 (rdList (body bs) rdCell (rdText (body bs) rs0).2).1 ∧ ListAt FlatAt 8 (H.next + 3) H'.next H' p2 (rdList (body bs) rdFlat (rdList (body bs) rdCell (rdText (body bs) rs0).2).2).1) ?_ ?_
 refine T_rg ?_
 simp [aFieldAddr, astore, splice, frame0, g2, g7, g8, b2]
 refine callK.of (flatsO _ (H.next + 1) (body bs) c _ hg.ok) ?_
 rintro p2 H2 ⟨ho, he⟩
 have hn2 := he.next
 simp at hn2
 have hL := ho
 have c2 : H2.box (H.next + 2) = some [[ps (rdText (body bs) rs0).1, p1, .nil, .nil]] := by rw [he.box _ (by simp; omega), box_setBox, if_neg (by omega)]; exact b2
 simp [aFieldAddr, astore, splice, frame0, g2, g7, g8, b2, c2, hL.cells, hL.okCells]
 exact ⟨p1, p2, hg.step (rdList_le (fun _ => rdFlat_le) (rdList_le (fun _ => rdCell_le) (rdText_le h4))) he, Do.lists stableCell hg he l1, Do.list stableFlat hg hL hn2⟩
 rintro F H' ⟨g2, g7, g8, p1, p2, hg, l1, l2⟩
 have hn := hg.nx
 have b1 := hg.ok.box
 have b2 := hg.img
 have b3 := hg.res
 refine T_mid (fun F H' => F 2 = .ptr H.next 1 0 0 ∧ F 7 = .ptr (H.next + 1) 1 0 0 ∧ F 8 = .ptr (H.next + 2) 1 0 0 ∧ ∃ p1 p2 p3 : PV, Do H H' (body bs) c (rdList (body bs) rdJob (rdList (body bs) rdFlat (rdList (body bs) rdCell (rdText (body bs) rs0).2).2).2).2 [ps (rdText (body bs) rs0).1, p1, p2, p3] ∧ ListAt (fun _ _ r x => r = DCell.row x) 11 (H.next + 3) H'.next H' p1 (rdList (body bs) rdCell (rdText (body bs) rs0).2).1 ∧ ListAt FlatAt 8 (H.next + 3) H'.next H' p2 (rdList (body bs) rdFlat (rdList (body bs) rdCell (rdText (body bs) rs0).2).2).1 ∧ ListAt JobAt 7 (H.next + 3) H'.next H' p3 (rdList (body bs) rdJob (rdList (body bs) rdFlat (rdList (body bs) rdCell (rdText (body bs) rs0).2).2).2).1) ?_ ?_
 refine T_rg ?_
 simp [aFieldAddr, astore, splice, frame0, g2, g7, g8, b2]
 refine callK.of (jobsO _ (H.next + 1) (body bs) c _ hg.ok) ?_
 rintro p3 H2 ⟨ho, he⟩
 have hn2 := he.next
 simp at hn2
 have hL := ho
 have c2 : H2.box (H.next + 2) = some [[ps (rdText (body bs) rs0).1, p1, p2, .nil]] := by rw [he.box _ (by simp; omega), box_setBox, if_neg (by omega)]; exact b2
 simp [aFieldAddr, astore, splice, frame0, g2, g7, g8, b2, c2, hL.cells, hL.okCells]
 exact ⟨p1, p2, p3, hg.step (rdList_le (fun _ => rdJob_le) (rdList_le (fun _ => rdFlat_le) (rdList_le (fun _ => rdCell_le) (rdText_le h4)))) he, Do.lists stableCell hg he l1, Do.lists stableFlat hg he l2, Do.list stableJob hg hL hn2⟩
 rintro F H' ⟨g2, g7, g8, p1, p2, p3, hg, l1, l2, l3⟩
 have hn := hg.nx
 have b1 := hg.ok.box
 have b2 := hg.img
 have b3 := hg.res
 have he : (rdList (body bs) rdJob (rdList (body bs) rdFlat (rdList (body bs) rdCell (rdText (body bs) rs0).2).2).2).2.e = 0 := hD.2.1
 have hst : (rdAll bs).2 = (rdList (body bs) rdJob (rdList (body bs) rdFlat (rdList (body bs) rdCell (rdText (body bs) rs0).2).2).2).2 := rfl
 have hsm : SmallImg (rdAll bs).1 := rd_small (by omega) h8 he
 have himg : ImgAt (H.next + 3) H'.next H' [ps (rdText (body bs) rs0).1, p1, p2, p3] (rdAll bs).1 := ⟨p1, p2, p3, rfl, l1, l2, l3⟩
 have hokc : (PV.agg [ps (rdText (body bs) rs0).1, p1, p2, p3]).okCells = true := by simp [PV.okCells, l1.atomic, l2.atomic, l3.atomic]
 refine T_seqk fun K5 hK5 => ?_
 refine T_seqk fun K6 hK6 => ?_
 refine T_draw (fun _ => True) [] (.free 0 (.free 1 (.free 2 (.free 3 (.free 4 (.free 5 (.free 6 (.free 7 (.free 8 (.free 9 (.free 10 (.free 11 (.free 12 (.free 13 (.free 14 (.free 15 (.free 16 .done))))))))))))))))) mix ?_ ?_ ?_
 kernel_rfl
 kernel_rfl
 simp [Keeps, Same, ↓wanted_some, aFieldAddr, aload, partOf, aBin, aBinV, aLen, frame0, g2, g7, g8, he, b1, rrow, int_beq]
 apply hK6
 refine T_cond (by first | rfl | exact g2 | exact g7 | exact g8 | exact g2 | exact g7 | exact g8 | exact g2 | exact g7 | exact g8 | exact g2 | exact g7 | exact g8 | exact he) (fun c1 => ?_) (fun c1 => ?_)
 have h2 := hD.2.2.1
 rw [hst] at h2
 simp at c1
 omega --done
 refine T_skip ?_
 try simp only [kn]
 apply hK5
 refine T_seqk fun K7 hK7 => ?_
 refine T_sr fun K8 hK8 => ?_
 simp [aFieldAddr, aload, partOf, aBin, aBinV, frame0, g2, g7, g8, he, b1, rrow, rdRefuse, int_bne]
 apply hK8
 refine T_cond (by first | rfl | exact g2 | exact g7 | exact g8 | exact g2 | exact g7 | exact g8 | exact g2 | exact g7 | exact g8 | exact g2 | exact g7 | exact g8 | exact he) (fun c2 => ?_) (fun c2 => ?_)
 exact absurd c2 (by simp [he]) --done
 refine T_skip ?_
 try simp only [kn]
 apply hK7
 refine T_seqk fun K9 hK9 => ?_
 refine T_sr fun K10 hK10 => ?_
 simp [aload, partOf, aExtract, frame0, g2, g7, g8, he, b2]
 refine callK.of (ACalls.quiet (X := fun q => ∃ a b : Int, q = .tuple [pi a, pi b, pi (checkE (rdAll bs).1)]) 0 1 (args' := [.agg ((rdAll bs).1.row 0)]) ⟨imgFz himg, trivial⟩ (checkIs _ 0 (rdAll bs).1 hsm.cells hsm.codes hsm.jobs hsm.ops hsm.addr) ?_) ?_
 rintro _ ⟨a, b, rfl⟩
 exact .tuple fun p hp => by simp only [List.mem_cons, List.not_mem_nil, or_false] at hp; rcases hp with rfl | rfl | rfl <;> exact .val _
 rintro _ Hz ⟨⟨ca, cb, rfl⟩, hz⟩
 subst Hz
 simp [aload, partOf, aExtract, frame0, g2, g7, g8, he, b2]
 apply hK10
 refine T_sr fun K11 hK11 => ?_
 simp [aBin, aBinV, frame0, g2, g7, g8, he, int_bne]
 apply hK11
 refine T_cond (by first | rfl | exact g2 | exact g7 | exact g8 | exact g2 | exact g7 | exact g8 | exact g2 | exact g7 | exact g8 | exact g2 | exact g7 | exact g8 | exact he) (fun c3 => ?_) (fun c3 => ?_)
 simp [hD.2.2.2] at c3 --done
 refine T_skip ?_
 try simp only [kn]
 apply hK9
 refine T_sr fun K12 hK12 => ?_
 simp [aload, partOf, astore, splice, frame0, g2, g7, g8, he, b2, b3, hokc]
 apply hK12
 refine T_ret ?_
 try simp only [kr]
 refine ⟨.inr rfl, ?_⟩
 rw [show Tryz.f11.results.toList = [.cell 2 26, .tmp 3, .tmp 4] from rfl]
 simp [aResults, aload, partOf, put_at, frame0, g2, packed]
 exact ⟨himg.keep (lo' := H.next) (H' := H'.setBox H.next [[ps (rdText (body bs) rs0).1, p1, p2, p3]]) (by omega) (Nat.le_refl _) (by simp) fun j h1 _ => by simp [show j ≠ H.next by omega], .setBox (Nat.le_refl _) hg.ext⟩
section
attribute [local simp] Gs_true Gs_false gcond_Gr Gr_true Gr_false abox frame0 int_beq int_bne aload astore partOf splice aUn aFieldAddr aField aBin aBinV aConvert aExtract aLen aBuild aBuild.go aalloc AS.Ext.refl AS.Ext.bump AS.Ext.setBox
theorem letB (n : Int) : letterB n = decide (97 ≤ n ∧ n ≤ 122 ∨ 65 ≤ n ∧ n ≤ 90) := by
 unfold letterB; repeat' split
 all_goals (symm; simp; omega)
theorem digB (n : Int) : digitB n = decide (48 ≤ n ∧ n ≤ 57) := by
 unfold digitB; repeat' split
 all_goals (symm; simp; omega)
theorem inwB (n : Int) : inWordB n = (letterB n || digitB n || decide (n = 95)) := by
 unfold inWordB; repeat' split
 all_goals simp_all
def timeB (n : Int) : Bool := decide (14 ≤ n ∧ n ≤ 17)
def inR (n m : Int) : Bool := decide (0 ≤ n ∧ n ≤ m)
theorem rLetter (H : AS) (n : Int) : ACalls Tryz.prog 89 [.val (.int .u8 n)] H fun q H' => q = pb (letterB n) ∧ H' = H := by
 refine ACalls_intro Tryz.func89 rfl (by kernel_rfl) (by simp) fun hwf hbel => ?_
 repeat' first
  | refine T_seq ?_
  | refine T_rgn ?_
  | refine T_cd ?_
  | refine T_sk ?_
  | refine T_rt ?_
  | refine T_block ?_
  | refine T_ex ?_
  | refine Kt_then ?_
  | refine Kt_block ?_
  | refine Kr_then ?_
  | refine Kr_block ?_
  | refine Ke_here ?_
  | refine Ke_then ?_
  | refine Hid.mk ?_
  | refine Gs.mk (fun g => ?_) (fun g => ?_) <;> try simp only [nm0] at g
  | refine Gr.mk (fun g => ?_) (fun g => ?_) <;> try simp only [nm0] at g
  | (refine Run.of ?_; simp [*])
 all_goals (refine Kx.mk ?_; refine owes_one (.inr rfl) hwf rfl ?_ ?_ ?_ ?_)
 all_goals (try simp (maxDischargeDepth := 20) [letB, *])
 all_goals omega
theorem rDigit (H : AS) (n : Int) : ACalls Tryz.prog 111 [.val (.int .u8 n)] H fun q H' => q = pb (digitB n) ∧ H' = H := by
 refine ACalls_intro Tryz.func111 rfl (by kernel_rfl) (by simp) fun hwf hbel => ?_
 repeat' first
  | refine T_seq ?_
  | refine T_rgn ?_
  | refine T_cd ?_
  | refine T_sk ?_
  | refine T_rt ?_
  | refine T_block ?_
  | refine T_ex ?_
  | refine Kt_then ?_
  | refine Kt_block ?_
  | refine Kr_then ?_
  | refine Kr_block ?_
  | refine Ke_here ?_
  | refine Ke_then ?_
  | refine Hid.mk ?_
  | refine Gs.mk (fun g => ?_) (fun g => ?_) <;> try simp only [nm0] at g
  | refine Gr.mk (fun g => ?_) (fun g => ?_) <;> try simp only [nm0] at g
  | (refine Run.of ?_; simp [*])
 all_goals (refine Kx.mk ?_; refine owes_one (.inr rfl) hwf rfl ?_ ?_ ?_ ?_)
 all_goals (try simp (maxDischargeDepth := 20) [digB, *])
 all_goals omega
theorem rInner (H : AS) (n : Int) : ACalls Tryz.prog 90 [.val (.int .u8 n)] H fun q H' => q = pb (inWordB n) ∧ H' = H := by
 refine ACalls_intro Tryz.func90 rfl (by kernel_rfl) (by simp) fun hwf hbel => ?_
 repeat' first
  | refine T_seq ?_
  | refine T_rgn ?_
  | refine T_cd ?_
  | refine T_sk ?_
  | refine T_rt ?_
  | refine T_block ?_
  | refine T_ex ?_
  | refine Kt_then ?_
  | refine Kt_block ?_
  | refine Kr_then ?_
  | refine Kr_block ?_
  | refine Ke_here ?_
  | refine Ke_then ?_
  | refine Hid.mk ?_
  | (refine callR (rLetter _ _) ?_; rintro _ Hz ⟨rfl, hz⟩; subst Hz)
  | (refine callR (rDigit _ _) ?_; rintro _ Hz ⟨rfl, hz⟩; subst Hz)
  | refine Gs.mk (fun g => ?_) (fun g => ?_) <;> try simp only [nm0] at g
  | refine Gr.mk (fun g => ?_) (fun g => ?_) <;> try simp only [nm0] at g
  | (refine Run.of ?_; simp [*])
 all_goals (refine Kx.mk ?_; refine owes_one (.inr rfl) hwf rfl ?_ ?_ ?_ ?_)
 all_goals (try simp (maxDischargeDepth := 20) [inwB, *])
 all_goals (simp_all)
theorem rSigned (H : AS) (n : Int) : ACalls Tryz.prog 131 [.val (.int .u8 n)] H fun q H' => q = pb (signedB n) ∧ H' = H := by
 refine ACalls_intro Tryz.func131 rfl (by kernel_rfl) (by simp) fun hwf hbel => ?_
 repeat' first
  | refine T_seq ?_
  | refine T_rgn ?_
  | refine T_cd ?_
  | refine T_sk ?_
  | refine T_rt ?_
  | refine T_block ?_
  | refine T_ex ?_
  | refine Kt_then ?_
  | refine Kt_block ?_
  | refine Kr_then ?_
  | refine Kr_block ?_
  | refine Ke_here ?_
  | refine Ke_then ?_
  | refine Hid.mk ?_
  | refine Gs.mk (fun g => ?_) (fun g => ?_) <;> try simp only [nm0] at g
  | refine Gr.mk (fun g => ?_) (fun g => ?_) <;> try simp only [nm0] at g
  | (refine Run.of ?_; simp [*])
 all_goals (refine Kx.mk ?_; refine owes_one (.inr rfl) hwf rfl ?_ ?_ ?_ ?_)
 all_goals (try simp (maxDischargeDepth := 20) [signedB, *])
 all_goals omega
theorem rUnsigned (H : AS) (n : Int) : ACalls Tryz.prog 132 [.val (.int .u8 n)] H fun q H' => q = pb (unsignedB n) ∧ H' = H := by
 refine ACalls_intro Tryz.func132 rfl (by kernel_rfl) (by simp) fun hwf hbel => ?_
 repeat' first
  | refine T_seq ?_
  | refine T_rgn ?_
  | refine T_cd ?_
  | refine T_sk ?_
  | refine T_rt ?_
  | refine T_block ?_
  | refine T_ex ?_
  | refine Kt_then ?_
  | refine Kt_block ?_
  | refine Kr_then ?_
  | refine Kr_block ?_
  | refine Ke_here ?_
  | refine Ke_then ?_
  | refine Hid.mk ?_
  | refine Gs.mk (fun g => ?_) (fun g => ?_) <;> try simp only [nm0] at g
  | refine Gr.mk (fun g => ?_) (fun g => ?_) <;> try simp only [nm0] at g
  | (refine Run.of ?_; simp [*])
 all_goals (refine Kx.mk ?_; refine owes_one (.inr rfl) hwf rfl ?_ ?_ ?_ ?_)
 all_goals (try simp (maxDischargeDepth := 20) [unsignedB, *])
 all_goals omega
theorem rTime (H : AS) (n : Int) : ACalls Tryz.prog 134 [.val (.int .u8 n)] H fun q H' => q = pb (timeB n) ∧ H' = H := by
 refine ACalls_intro Tryz.func134 rfl (by kernel_rfl) (by simp) fun hwf hbel => ?_
 repeat' first
  | refine T_seq ?_
  | refine T_rgn ?_
  | refine T_cd ?_
  | refine T_sk ?_
  | refine T_rt ?_
  | refine T_block ?_
  | refine T_ex ?_
  | refine Kt_then ?_
  | refine Kt_block ?_
  | refine Kr_then ?_
  | refine Kr_block ?_
  | refine Ke_here ?_
  | refine Ke_then ?_
  | refine Hid.mk ?_
  | refine Gs.mk (fun g => ?_) (fun g => ?_) <;> try simp only [nm0] at g
  | refine Gr.mk (fun g => ?_) (fun g => ?_) <;> try simp only [nm0] at g
  | (refine Run.of ?_; simp [*])
 all_goals (refine Kx.mk ?_; refine owes_one (.inr rfl) hwf rfl ?_ ?_ ?_ ?_)
 all_goals (try simp (maxDischargeDepth := 20) [timeB, *])
 all_goals omega
theorem rInteger (H : AS) (n : Int) : ACalls Tryz.prog 112 [.val (.int .u8 n)] H fun q H' => q = pb (wholeB n) ∧ H' = H := by
 refine ACalls_intro Tryz.func112 rfl (by kernel_rfl) (by simp) fun hwf hbel => ?_
 repeat' first
  | refine T_seq ?_
  | refine T_rgn ?_
  | refine T_cd ?_
  | refine T_sk ?_
  | refine T_rt ?_
  | refine T_block ?_
  | refine T_ex ?_
  | refine Kt_then ?_
  | refine Kt_block ?_
  | refine Kr_then ?_
  | refine Kr_block ?_
  | refine Ke_here ?_
  | refine Ke_then ?_
  | refine Hid.mk ?_
  | (refine callR (rSigned _ _) ?_; rintro _ Hz ⟨rfl, hz⟩; subst Hz)
  | (refine callR (rUnsigned _ _) ?_; rintro _ Hz ⟨rfl, hz⟩; subst Hz)
  | refine Gs.mk (fun g => ?_) (fun g => ?_) <;> try simp only [nm0] at g
  | refine Gr.mk (fun g => ?_) (fun g => ?_) <;> try simp only [nm0] at g
  | (refine Run.of ?_; simp [*])
 all_goals (refine Kx.mk ?_; refine owes_one (.inr rfl) hwf rfl ?_ ?_ ?_ ?_)
 all_goals (try simp (maxDischargeDepth := 20) [wholeB, *])
 all_goals simp_all
theorem rIn (H : AS) (n m : Int) : ACalls Tryz.prog 95 [pi n, pi m] H fun q H' => q = pb (numberB n m) ∧ H' = H := by
 refine ACalls_intro Tryz.func95 rfl (by kernel_rfl) (by simp) fun hwf hbel => ?_
 repeat' first
  | refine T_seq ?_
  | refine T_rgn ?_
  | refine T_cd ?_
  | refine T_sk ?_
  | refine T_rt ?_
  | refine T_block ?_
  | refine T_ex ?_
  | refine Kt_then ?_
  | refine Kt_block ?_
  | refine Kr_then ?_
  | refine Kr_block ?_
  | refine Ke_here ?_
  | refine Ke_then ?_
  | refine Hid.mk ?_
  | refine Gs.mk (fun g => ?_) (fun g => ?_) <;> try simp only [nm0] at g
  | refine Gr.mk (fun g => ?_) (fun g => ?_) <;> try simp only [nm0] at g
  | (refine Run.of ?_; simp [*])
 all_goals (refine Kx.mk ?_; refine owes_one (.inr rfl) hwf rfl ?_ ?_ ?_ ?_)
 all_goals (try simp (maxDischargeDepth := 20) [numberB, *])
 all_goals omega
theorem wi64 (x : Int) : IntKind.i64.wrap x = (x + 9223372036854775808) % 18446744073709551616 - 9223372036854775808 := by
 unfold IntKind.wrap; simp only [IntKind.bits, IntKind.signed, Bool.true_and]
 split
 rename_i h1; have := of_decide_eq_true h1; omega
 rename_i h1; have : ¬ _ := fun h => h1 (decide_eq_true h); omega
theorem wu64 (x : Int) : IntKind.u64.wrap x = x % 18446744073709551616 := rfl
theorem nanB_eq (x : Nat) : nanB x = decide (9218868437227405312 < x % 9223372036854775808) := by
 have e1 : Ieee.double.signWeight = 9223372036854775808 := by decide
 have e2 : Ieee.double.infRung = 9218868437227405312 := by decide
 have e3 : Ieee.double.binade = 4503599627370496 := by decide
 have key : ∀ d : Ieee.Datum, (d.order d != some .eq) = d.isNaN := by
  intro d
  cases d with
  | number s m i => simp [Ieee.Datum.order, Ieee.Datum.isNaN]
  | infinity s => simp [Ieee.Datum.order, Ieee.Datum.isNaN]
  | nan s t => rfl
 show ((Ieee.double.read x).order (Ieee.double.read x) != some Ordering.eq) = _
 rw [key]
 unfold Ieee.Format.read
 rw [e1, e2, e3]
 dsimp only
 generalize x % 9223372036854775808 = r
 by_cases h1 : r < 4503599627370496
 rw [if_pos h1]; symm; simp [Ieee.Datum.isNaN]; omega
 rw [if_neg h1]
 by_cases h2 : r < 9218868437227405312
 rw [if_pos h2]; symm; simp [Ieee.Datum.isNaN]; omega
 rw [if_neg h2]
 by_cases h3 : r = 9218868437227405312
 rw [if_pos h3]; symm; simp [Ieee.Datum.isNaN]; omega
 rw [if_neg h3]; symm; simp [Ieee.Datum.isNaN]; omega
def widthR (n : Int) : Int := if n = 1 then 0 else bitsN n
theorem and52 (x : Nat) : x &&& 4503599627370495 = x % 4503599627370496 := Nat.and_two_pow_sub_one_eq_mod x 52
theorem and11 (x : Nat) : x &&& 9218868437227405312 = x / 4503599627370496 % 2048 * 4503599627370496 := by
 have e : 9218868437227405312 = 2047 <<< 52 := by decide
 have h : x &&& 2047 <<< 52 = ((x >>> 52) &&& 2047) <<< 52 := by
  apply Nat.eq_of_testBit_eq
  intro i
  simp only [Nat.testBit_and, Nat.testBit_shiftLeft, Nat.testBit_shiftRight]
  by_cases hi : 52 ≤ i
  ·simp [hi]
  ·simp [hi]
 rw [e, h, Nat.shiftLeft_eq, Nat.shiftRight_eq_div_pow, show (2047 : Nat) = 2 ^ 11 - 1 from rfl, Nat.and_two_pow_sub_one_eq_mod]
theorem land64 (n : Int) (h : 0 ≤ n ∧ n < 2 ^ 64) (c : Nat) (hc : c < 2 ^ 64) : IntKind.u64.wrap ↑((n % 2 ^ IntKind.u64.bits).toNat &&& c) = ((n.toNat &&& c : Nat) : Int) := by
 have e : (n % 2 ^ IntKind.u64.bits).toNat = n.toNat := by simp only [IntKind.bits]; omega
 rw [e, wu64]
 have : n.toNat &&& c ≤ c := Nat.and_le_right
 omega
theorem rWidth (H : AS) (n : Int) : ACalls Tryz.prog 133 [.val (.int .u8 n)] H fun q H' => q = pi (widthR n) ∧ H' = H := by
 refine ACalls_intro Tryz.func133 rfl (by kernel_rfl) (by simp) fun hwf hbel => ?_
 repeat' first
  | refine T_seq ?_
  | refine T_rgn ?_
  | refine T_cd ?_
  | refine T_sk ?_
  | refine T_rt ?_
  | refine T_block ?_
  | refine T_ex ?_
  | refine Kt_then ?_
  | refine Kt_block ?_
  | refine Kr_then ?_
  | refine Kr_block ?_
  | refine Ke_here ?_
  | refine Ke_then ?_
  | refine Hid.mk ?_
  | refine Gs.mk (fun g => ?_) (fun g => ?_) <;> try simp only [nm0] at g
  | refine Gr.mk (fun g => ?_) (fun g => ?_) <;> try simp only [nm0] at g
  | (refine Run.of ?_; simp [*])
 all_goals (refine Kx.mk ?_; refine owes_one (.inr rfl) hwf rfl ?_ ?_ ?_ ?_)
 all_goals (try simp (maxDischargeDepth := 20) [widthR, bitsN, *])
theorem rWidth4 (H : AS) (n : Int) : ACalls Tryz.prog 94 [.val (.int .u8 n)] H fun q H' => q = pi (bitsN n) ∧ H' = H := by
 refine ACalls_intro Tryz.func94 rfl (by kernel_rfl) (by simp) fun hwf hbel => ?_
 repeat' first
  | refine T_seq ?_
  | refine T_rgn ?_
  | refine T_cd ?_
  | refine T_sk ?_
  | refine T_rt ?_
  | refine T_block ?_
  | refine T_ex ?_
  | refine Kt_then ?_
  | refine Kt_block ?_
  | refine Kr_then ?_
  | refine Kr_block ?_
  | refine Ke_here ?_
  | refine Ke_then ?_
  | refine Hid.mk ?_
  | refine Gs.mk (fun g => ?_) (fun g => ?_) <;> try simp only [nm0] at g
  | refine Gr.mk (fun g => ?_) (fun g => ?_) <;> try simp only [nm0] at g
  | (refine Run.of ?_; simp [*])
 all_goals (refine Kx.mk ?_; refine owes_one (.inr rfl) hwf rfl ?_ ?_ ?_ ?_)
 all_goals (try simp (maxDischargeDepth := 20) [bitsN, *])
 all_goals omega
theorem rNear (H : AS) (n m : Int) (hn : -(2 ^ 63) ≤ n ∧ n < 2 ^ 63) (hm : -(2 ^ 63) ≤ m ∧ m < 2 ^ 63) (h : nearB n m = true) : ACalls Tryz.prog 116 [pi n, pi m] H fun q H' => q = pb true ∧ H' = H := by
 refine ACalls_intro Tryz.func116 rfl (by kernel_rfl) (by simp) fun hwf hbel => ?_
 repeat' first
  | refine T_seq ?_
  | refine T_rgn ?_
  | refine T_cd ?_
  | refine T_sk ?_
  | refine T_rt ?_
  | refine T_block ?_
  | refine T_ex ?_
  | refine Kt_then ?_
  | refine Kt_block ?_
  | refine Kr_then ?_
  | refine Kr_block ?_
  | refine Ke_here ?_
  | refine Ke_then ?_
  | refine Hid.mk ?_
  | refine Gs.mk (fun g => ?_) (fun g => ?_) <;> try simp only [nm0] at g
  | refine Gr.mk (fun g => ?_) (fun g => ?_) <;> try simp only [nm0] at g
  | (refine Run.of ?_; simp [*])
 all_goals (refine Kx.mk ?_; refine owes_one (.inr rfl) hwf rfl ?_ ?_ ?_ ?_)
 all_goals (try simp (maxDischargeDepth := 20) [*])
 all_goals simp [nearB, wi64, wu64] at h
 all_goals (first | omega | (rw [wi64]; omega))
theorem rIsNan (H : AS) (n : Int) (h0 : 0 ≤ n ∧ n < 2 ^ 64) : ACalls Tryz.prog 136 [.val (.int .u64 n)] H fun q H' => q = pb (nanB n.toNat) ∧ H' = H := by
 refine ACalls_intro Tryz.func136 rfl (by kernel_rfl) (by simp) fun hwf hbel => ?_
 repeat' first
  | refine T_seq ?_
  | refine T_rgn ?_
  | refine T_cd ?_
  | refine T_sk ?_
  | refine T_rt ?_
  | refine T_block ?_
  | refine T_ex ?_
  | refine Kt_then ?_
  | refine Kt_block ?_
  | refine Kr_then ?_
  | refine Kr_block ?_
  | refine Ke_here ?_
  | refine Ke_then ?_
  | refine Hid.mk ?_
  | refine Gs.mk (fun g => ?_) (fun g => ?_) <;> try simp only [nm0] at g
  | refine Gr.mk (fun g => ?_) (fun g => ?_) <;> try simp only [nm0] at g
  | (refine Run.of ?_; simp [*])
 all_goals (refine Kx.mk ?_; refine owes_one (.inr rfl) hwf rfl ?_ ?_ ?_ ?_)
 all_goals (try simp (maxDischargeDepth := 20) [*])
 all_goals (simp only [show (9218868437227405312 : Nat) % 2 ^ IntKind.u64.bits = 9218868437227405312 from rfl, show (4503599627370495 : Nat) % 2 ^ IntKind.u64.bits = 4503599627370495 from rfl, land64 n h0 9218868437227405312 (by decide), land64 n h0 4503599627370495 (by decide)] at *)
 all_goals (simp only [and52, and11] at *; simp [nanB_eq])
 all_goals (try (rw [Bool.eq_iff_iff]; simp))
 all_goals omega
theorem rBig (H : AS) (v : DVal) : ACalls Tryz.prog 135 [.agg v.row] H fun q H' => q = pb (decide ((v.kind = 9 ∨ v.kind = 13) ∧ v.bits.fdiv (2 ^ 63) = 1)) ∧ H' = H := by
 refine ACalls_intro Tryz.func135 rfl (by kernel_rfl) (by simp) fun hwf hbel => ?_
 repeat' first
  | refine T_seq ?_
  | refine T_rgn ?_
  | refine T_cd ?_
  | refine T_sk ?_
  | refine T_rt ?_
  | refine T_block ?_
  | refine T_ex ?_
  | refine Kt_then ?_
  | refine Kt_block ?_
  | refine Kr_then ?_
  | refine Kr_block ?_
  | refine Ke_here ?_
  | refine Ke_then ?_
  | refine Hid.mk ?_
  | refine Gs.mk (fun g => ?_) (fun g => ?_) <;> try simp only [nm0] at g
  | refine Gr.mk (fun g => ?_) (fun g => ?_) <;> try simp only [nm0] at g
  | (refine Run.of ?_; simp [*, DVal.row])
 all_goals (refine Kx.mk ?_; refine owes_one (.inr rfl) hwf rfl ?_ ?_ ?_ ?_)
 all_goals (try simp (maxDischargeDepth := 20) [DVal.row, *])
 all_goals rfl
theorem mayV_facts {v : DVal} (h : mayV v = true) : (v.kind = 19 → v.bits = 0 ∧ v.text.size ≤ 254) ∧ (¬ v.kind = 19 → v.text = ⟨#[]⟩ ∧ (1 ≤ v.kind ∧ v.kind ≤ 18) ∧ (if v.kind = 18 then (nanB v.bits.toNat = true → v.bits = 9221120237041090561) else fitsB v.kind v.bits = true)) := by
 unfold mayV at h
 constructor
 intro e
 rw [if_pos e] at h
 split at h
 split at h
 rename_i h1 h2; exact ⟨h1, by omega⟩
 cases h
 cases h
 intro e
 rw [if_neg e] at h
 split at h
 rename_i h1
 refine ⟨h1, ?_⟩
 by_cases h2 : v.kind = 18
 rw [if_pos h2] at h ⊢
 refine ⟨by omega, fun hn => ?_⟩
 rw [if_pos hn] at h
 split at h
 assumption
 cases h
 ·rw [if_neg h2] at h ⊢
  unfold knownB at h
  repeat' split at h
  all_goals first | (cases h; done) | exact ⟨by omega, by assumption⟩ | simp_all
 cases h
theorem rMay0 (H : AS) (k b : Int) (hb : 0 ≤ b ∧ b < 2 ^ 64) (hk : 1 ≤ k ∧ k ≤ 18) (h : if k = 18 then (nanB b.toNat = true → b = 9221120237041090561) else fitsB k b = true) : ACalls Tryz.prog 117 [.val (.int .u8 k), .val (.int .u64 b)] H fun q H' => q = pb true ∧ H' = H := by
 have hc : k = 1 ∨ k = 2 ∨ k = 3 ∨ k = 4 ∨ k = 5 ∨ k = 6 ∨ k = 7 ∨ k = 8 ∨ k = 9 ∨ k = 10 ∨ k = 11 ∨ k = 12 ∨ k = 13 ∨ k = 14 ∨ k = 15 ∨ k = 16 ∨ k = 17 ∨ k = 18 := by omega
 rcases hc with rfl | rfl | rfl | rfl | rfl | rfl | rfl | rfl | rfl | rfl | rfl | rfl | rfl | rfl | rfl | rfl | rfl | rfl
 all_goals (simp [fitsB, signedB, unsignedB, rowB, widthN, mostN, IntKind.bits, wi64, wu64] at h)
 all_goals (refine ACalls_intro Tryz.func117 rfl (by kernel_rfl) (by simp) fun hwf hbel => ?_)
 all_goals (
  repeat' first
   | refine T_seq ?_
   | refine T_rgn ?_
   | refine T_cd ?_
   | refine T_sk ?_
   | refine T_rt ?_
   | refine T_block ?_
   | refine T_ex ?_
   | refine Kt_then ?_
   | refine Kt_block ?_
   | refine Kr_then ?_
   | refine Kr_block ?_
   | refine Ke_here ?_
   | refine Ke_then ?_
   | refine Hid.mk ?_
   | (refine callR (rWidth _ _) ?_; rintro _ Hz ⟨rfl, hz⟩; subst Hz)
   | (refine callR (rSigned _ _) ?_; rintro _ Hz ⟨rfl, hz⟩; subst Hz)
   | (refine callR (rIsNan _ _ hb) ?_; rintro _ Hz ⟨rfl, hz⟩; subst Hz)
   | refine Gs.mk (fun g => ?_) (fun g => ?_) <;> (try simp only [nm0] at g)
   | refine Gr.mk (fun g => ?_) (fun g => ?_) <;> (try simp only [nm0] at g)
   | (refine Run.of ?_; simp [*, widthR, bitsN, signedB, IntKind.bits, wi64, wu64]))
 all_goals (refine Kx.mk ?_; refine owes_one (.inr rfl) hwf rfl ?_ ?_ ?_ ?_)
 all_goals (try simp (maxDischargeDepth := 20) [widthR, bitsN, signedB, IntKind.bits, wi64, wu64, *])
 all_goals (try omega)
 rw [show (b + 9223372036854775808) % 18446744073709551616 - 9223372036854775808 = b by omega]; exact h.2
 cases e : nanB b.toNat with
 | false => rfl
 | true => exact absurd (h e) (by assumption)
theorem rMay (H : AS) (v : DVal) (hb : 0 ≤ v.bits ∧ v.bits < 2 ^ 64) (h : mayV v = true) : ACalls Tryz.prog 98 [.agg v.row] H fun q H' => q = pb true ∧ H' = H := by
 refine ACalls_intro Tryz.func98 rfl (by kernel_rfl) (by simp) fun hwf hbel => ?_
 obtain ⟨f1, f2⟩ := mayV_facts h
 repeat' first
  | refine T_seq ?_
  | refine T_rgn ?_
  | refine T_cd ?_
  | refine T_sk ?_
  | refine T_rt ?_
  | refine T_block ?_
  | refine T_ex ?_
  | refine Kt_then ?_
  | refine Kt_block ?_
  | refine Kr_then ?_
  | refine Kr_block ?_
  | refine Ke_here ?_
  | refine Ke_then ?_
  | refine Hid.mk ?_
  | (refine callR (rMay0 _ _ _ hb (f2 (by assumption)).2.1 (f2 (by assumption)).2.2) ?_; rintro _ Hz ⟨rfl, hz⟩; subst Hz)
  | refine Gs.mk (fun g => ?_) (fun g => ?_) <;> (try simp only [nm0] at g)
  | refine Gr.mk (fun g => ?_) (fun g => ?_) <;> (try simp only [nm0] at g)
  | (refine Run.of ?_; simp [*, DVal.row, beq_bytes])
 all_goals (refine Kx.mk ?_; refine owes_one (.inr rfl) hwf rfl ?_ ?_ ?_ ?_)
 all_goals (try simp (maxDischargeDepth := 20) [DVal.row, *])
 all_goals first | omega | (have := f1 (by assumption); simp_all; done) | (have := f2 (by assumption); simp_all; done) | trace_state
theorem rBig0 (H : AS) (v : DVal) (h : ¬ ((v.kind = 9 ∨ v.kind = 13) ∧ v.bits.fdiv (2 ^ 63) = 1)) : ACalls Tryz.prog 135 [.agg v.row] H fun q H' => q = pb false ∧ H' = H := by
 have := rBig H v; rw [decide_eq_false h] at this; exact this
theorem rNumber (H : AS) (v : DVal) (hb : 0 ≤ v.bits ∧ v.bits < 2 ^ 64) (h : mayV v = true) (hw : 2 ≤ v.kind ∧ v.kind ≤ 9) (hn : v.kind = 9 → v.bits < 2 ^ 63) : ACalls Tryz.prog 113 [.agg v.row] H fun q H' => q = .tuple [pi (IntKind.i64.wrap v.bits), pb true] ∧ H' = H := by
 refine ACalls_intro Tryz.func113 rfl (by kernel_rfl) (by simp) fun hwf hbel => ?_
 have hbig : ¬ ((v.kind = 9 ∨ v.kind = 13) ∧ v.bits.fdiv (2 ^ 63) = 1) := by
  rw [Int.fdiv_eq_ediv_of_nonneg _ (by decide)]; omega
 have hwid : widthR v.kind > 0 := by
  unfold widthR bitsN; repeat' split
  all_goals omega
 repeat' first
  | refine T_seq ?_
  | refine T_rgn ?_
  | refine T_cd ?_
  | refine T_sk ?_
  | refine T_rt ?_
  | refine T_block ?_
  | refine T_ex ?_
  | refine Kt_then ?_
  | refine Kt_block ?_
  | refine Kr_then ?_
  | refine Kr_block ?_
  | refine Ke_here ?_
  | refine Ke_then ?_
  | refine Hid.mk ?_
  | (refine callR (rMay _ _ hb h) ?_; rintro _ Hz ⟨rfl, hz⟩; subst Hz)
  | (refine callR (rWidth _ _) ?_; rintro _ Hz ⟨rfl, hz⟩; subst Hz)
  | (refine callR (rTime _ _) ?_; rintro _ Hz ⟨rfl, hz⟩; subst Hz)
  | (refine callR (rBig0 _ _ hbig) ?_; rintro _ Hz ⟨rfl, hz⟩; subst Hz)
  | refine Gs.mk (fun g => ?_) (fun g => ?_) <;> (try simp only [nm0] at g) <;> try (exfalso; omega)
  | refine Gr.mk (fun g => ?_) (fun g => ?_) <;> (try simp only [nm0] at g) <;> try (exfalso; omega)
  | (refine Run.of ?_; simp [*, DVal.row, hwid])
 all_goals (refine Kx.mk ?_; refine owes_vals (qs := [pi (IntKind.i64.wrap v.bits), pb true]) (.inr rfl) hwf rfl rfl ?_ ?_ ?_ ?_)
 all_goals (try simp (maxDischargeDepth := 20) [*])
theorem fitsT_facts {t : DType} {v : DVal} (h : fitsT t v = 0) : mayV v = true ∧ t.kind = v.kind ∧ (t.sub = true → wholeB v.kind = true → (2 ≤ v.kind ∧ v.kind ≤ 9) ∧ (v.kind = 9 → v.bits < 2 ^ 63) ∧ t.lo ≤ IntKind.i64.wrap v.bits ∧ IntKind.i64.wrap v.bits ≤ t.hi) ∧ (v.kind = 19 → (v.text.size : Int) ≤ if t.max < 1 then 254 else t.max) := by
 have hw : ∀ k, wholeB k = true → 2 ≤ k ∧ k ≤ 9 := by
  intro k hk
  unfold wholeB signedB unsignedB at hk
  repeat' split at hk
  all_goals first | (cases hk; done) | omega | skip
  all_goals simp_all
  all_goals omega
 have hn : ∀ (k : Int), wholeB k = true → (numberV ({ kind := k, bits := v.bits, text := v.text } : DVal)).2 = true → (k = 9 → v.bits < 2 ^ 63) ∧ (numberV ({ kind := k, bits := v.bits, text := v.text } : DVal)).1 = IntKind.i64.wrap v.bits := by
  intro k hk h2
  have hk' := hw k hk
  have hc : k = 2 ∨ k = 3 ∨ k = 4 ∨ k = 5 ∨ k = 6 ∨ k = 7 ∨ k = 8 ∨ k = 9 := by omega
  cases hm : mayV ({ kind := k, bits := v.bits, text := v.text } : DVal) with
  | false => unfold numberV at h2; simp [hm] at h2
  | true =>
   by_cases hb : 9223372036854775807 < v.bits
   ·rcases hc with rfl | rfl | rfl | rfl | rfl | rfl | rfl | rfl <;> simp [numberV, hm, unsignedB, rowB, hb] at h2 ⊢
   ·rcases hc with rfl | rfl | rfl | rfl | rfl | rfl | rfl | rfl <;> simp [numberV, hm, unsignedB, rowB, hb] at h2 ⊢
    omega
 have hm : mayV v = true := by
  cases e : mayV v with
  | true => rfl
  | false => unfold fitsT at h; simp [e] at h
 have hk : v.kind = t.kind := by
  by_cases e : v.kind = t.kind
  ·exact e
  ·unfold fitsT at h; simp [hm, e] at h
 refine ⟨hm, hk.symm, fun hs hwk => ?_, fun h19 => ?_⟩
 rw [hk] at hwk ⊢
 have hn2 : (numberV ({ kind := t.kind, bits := v.bits, text := v.text } : DVal)).2 = true := by
  cases e : (numberV ({ kind := t.kind, bits := v.bits, text := v.text } : DVal)).2 with
  | true => rfl
  | false => unfold fitsT at h; simp [hm, hk, hs, hwk, e] at h
 obtain ⟨n1, n2⟩ := hn _ hwk hn2
 have hlo : ¬ IntKind.i64.wrap v.bits < t.lo := fun e => by unfold fitsT at h; simp [hm, hk, hs, hwk, hn2, n2, e] at h
 have hhi : ¬ t.hi < IntKind.i64.wrap v.bits := fun e => by unfold fitsT at h; simp [hm, hk, hs, hwk, hn2, n2, hlo, e] at h
 exact ⟨hw _ hwk, n1, by omega, by omega⟩
 have h19' : t.kind = 19 := by rw [← hk]; exact h19
 unfold fitsT at h
 cases hs : t.sub <;> by_cases hx : t.max < 1 <;> simp [hm, hk, h19', hs, hx, show wholeB 19 = false from rfl] at h ⊢ <;> omega
theorem rFits (H : AS) (t : DType) (v : DVal) (hb : 0 ≤ v.bits ∧ v.bits < 2 ^ 64) (h : fitsT t v = 0) : ACalls Tryz.prog 91 [.agg t.row, .agg v.row] H fun q H' => q = pi 0 ∧ H' = H := by
 refine ACalls_intro Tryz.func91 rfl (by kernel_rfl) (by simp) fun hwf hbel => ?_
 obtain ⟨h1, h2, h3, h4⟩ := fitsT_facts h
 repeat' first
  | refine T_seq ?_
  | refine T_rgn ?_
  | refine T_cd ?_
  | refine T_sk ?_
  | refine T_rt ?_
  | refine T_block ?_
  | refine T_ex ?_
  | refine Kt_then ?_
  | refine Kt_block ?_
  | refine Kr_then ?_
  | refine Kr_block ?_
  | refine Ke_here ?_
  | refine Ke_then ?_
  | refine Hid.mk ?_
  | (refine callR (rMay _ _ hb h1) ?_; rintro _ Hz ⟨rfl, hz⟩; subst Hz)
  | (refine callR (rInteger _ _) ?_; rintro _ Hz ⟨rfl, hz⟩; subst Hz)
  | (refine callR (rNumber _ _ hb h1 (h3 (by assumption) (by assumption)).1 (h3 (by assumption) (by assumption)).2.1) ?_; rintro _ Hz ⟨rfl, hz⟩; subst Hz)
  | refine Gs.mk (fun g => ?_) (fun g => ?_) <;> (try simp only [nm0] at g) <;> try (exfalso; omega)
  | refine Gr.mk (fun g => ?_) (fun g => ?_) <;> (try simp only [nm0] at g) <;> try (exfalso; omega)
  | (refine Run.of ?_; simp [*, DVal.row, DType.row])
 all_goals (refine Kx.mk ?_; refine owes_one (.inr rfl) hwf rfl ?_ ?_ ?_ ?_)
 all_goals (try simp (maxDischargeDepth := 20) [DVal.row, *])
 all_goals (first | omega | (have := h3 (by assumption) (by assumption); omega) | (have := h4 (by assumption); split at this <;> omega))
theorem rTyped (H : AS) (x : DCell) : ACalls Tryz.prog 92 [.agg x.row] H fun q H' => q = .agg (DType.row ⟨x.kind, x.sub, x.lo, x.hi, x.max, false, 0, 0, ⟨#[]⟩⟩) ∧ H' = H := by
 refine ACalls_intro Tryz.func92 rfl (by kernel_rfl) (by simp) fun hwf hbel => ?_
 repeat' first
  | refine T_seq ?_
  | refine T_rgn ?_
  | refine T_cd ?_
  | refine T_sk ?_
  | refine T_rt ?_
  | refine T_block ?_
  | refine T_ex ?_
  | refine Kt_then ?_
  | refine Kt_block ?_
  | refine Kr_then ?_
  | refine Kr_block ?_
  | refine Ke_here ?_
  | refine Ke_then ?_
  | refine Hid.mk ?_
  | refine Gs.mk (fun g => ?_) (fun g => ?_) <;> (try simp only [nm0] at g)
  | refine Gr.mk (fun g => ?_) (fun g => ?_) <;> (try simp only [nm0] at g)
  | (refine Run.of ?_; simp [*, DCell.row, DType.row])
 all_goals (refine Kx.mk ?_; refine owes_one (r := .agg (DType.row ⟨x.kind, x.sub, x.lo, x.hi, x.max, false, 0, 0, ⟨#[]⟩⟩)) (.inr rfl) hwf (by rw [show Tryz.f92.results.toList = [.cell 2 126] from rfl]; simp [aResults, DType.row]) rfl ?_ ?_ ?_)
 all_goals (try simp (maxDischargeDepth := 20) [DType.row, *])
 all_goals trace_state
theorem nameB_facts {s : ByteArray} (h : nameB s = true) : 1 ≤ s.size ∧ s.size ≤ 24 ∧ letterB (byteAt s 0) = true ∧ ∀ i : Nat, i < s.size → inWordB (byteAt s i) = true := by
 unfold nameB at h
 split at h
 cases h
 rename_i h1
 split at h
 cases h
 split at h
 rename_i h2 h3
 have := size_pos h1
 exact ⟨by omega, by omega, h3, fun i hi => (List.all_eq_true.1 h) i (List.mem_range.2 hi)⟩
 cases h
theorem rIsName (H : AS) (s : ByteArray) (h : nameB s = true) : ACalls Tryz.prog 65 [ps s] H fun q H' => q = pb true ∧ H' = H := by
 refine ACalls_intro Tryz.func65 rfl (by kernel_rfl) (by simp) fun hwf hbel => ?_
 obtain ⟨h1, h2, h3, h4⟩ := nameB_facts h
 repeat' first
  | refine T_seq ?_
  | refine T_rgn ?_
  | refine T_cd ?_
  | refine T_sk ?_
  | refine T_rt ?_
  | refine T_block ?_
  | refine T_ex ?_
  | refine Kt_then ?_
  | refine Kt_block ?_
  | refine Kr_then ?_
  | refine Kr_block ?_
  | refine Ke_here ?_
  | refine Ke_then ?_
  | refine Hid.mk ?_
  | (refine callR (rLetter _ _) ?_; rintro _ Hz ⟨rfl, hz⟩; subst Hz)
  | (refine callR (rInner _ _) ?_; rintro _ Hz ⟨rfl, hz⟩; subst Hz)
  | refine Gs.mk (fun g => ?_) (fun g => ?_) <;> (try simp only [nm0] at g) <;> try (exfalso; omega)
  | refine Gr.mk (fun g => ?_) (fun g => ?_) <;> (try simp only [nm0] at g) <;> try (exfalso; omega)
  | (refine Run.of ?_; simp (disch := first | omega | assumption | (simp; done)) [*, idx9, wrap_i64])
 all_goals (try (refine Kx.mk ?_; refine owes_one (.inr rfl) hwf rfl ?_ ?_ ?_ ?_ <;> (try simp (maxDischargeDepth := 20) [*])))
 refine T_lp (fun k F H' => ∃ i : Nat, k = s.size - i ∧ i ≤ s.size ∧ F 0 = ps s ∧ F 3 = pi i ∧ H' = H) (s.size) ?_ ?_
 exact ⟨0, by omega, by omega, by simp, by simp, rfl⟩
 rintro k F H1 ⟨i, rfl, hi, g0, g3, rfl⟩
 repeat' first
  | refine T_seq ?_
  | refine T_rgn ?_
  | refine T_cd ?_
  | refine T_sk ?_
  | refine T_rt ?_
  | refine T_block ?_
  | refine T_ex ?_
  | refine Kt_then ?_
  | refine Kt_block ?_
  | refine Kr_then ?_
  | refine Kr_block ?_
  | refine Kr_loop ?_
  | refine Ke_here ?_
  | refine Ke_then ?_
  | refine Ke_loop ?_
  | refine Ke_block ?_
  | refine Hid.mk ?_
  | (refine callR (rLetter _ _) ?_; rintro _ Hz ⟨rfl, hz⟩; subst Hz)
  | (refine callR (rInner _ _) ?_; rintro _ Hz ⟨rfl, hz⟩; subst Hz)
  | refine Gs.mk (fun g => ?_) (fun g => ?_) <;> (try simp only [nm0] at g) <;> try (exfalso; omega)
  | refine Gr.mk (fun g => ?_) (fun g => ?_) <;> (try simp only [nm0] at g) <;> try (exfalso; omega)
  | (refine Run.of ?_; simp (disch := first | omega | assumption | (simp; done)) [*, idx9, wrap_i64])
 all_goals (try (refine Kx.mk ?_; refine owes_one (.inr rfl) hwf rfl ?_ ?_ ?_ ?_ <;> (try simp (maxDischargeDepth := 20) [*])))
 all_goals (try (refine Kt_loop ⟨_, ?_, i + 1, rfl, by omega, by simp [*], by simp [*], rfl⟩ <;> omega))
 all_goals trace_state
end
end Go.Abs
