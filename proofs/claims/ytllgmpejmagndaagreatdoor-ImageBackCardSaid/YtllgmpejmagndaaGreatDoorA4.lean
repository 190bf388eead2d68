/- Texts of ours, merged: the abstract layer, the walks over the loaded functions, the plain laws. -/
import Derived.Test.YtllgmpejmagndaaGreatDoorA3
import Derived.WalkSpells
namespace Go.Abs
open Go.Proofs
set_option autoImplicit false
set_option linter.all false
@[simp] theorem range5 : List.range 5 = [0, 1, 2, 3, 4] := rfl
def rdFlat (bs : List UInt8) (s : RS) : DFlat × RS :=
  let a := rdText bs s
  let l := rdNums bs 5 a.2
  let o := rdList bs rdOp l.2
  let p := rdList bs rdLoop o.2
  ({ name := a.1, what := l.1.getD 0 0, cells := l.1.getD 1 0, base := l.1.getD 2 0, regs := l.1.getD 3 0, slots := l.1.getD 4 0, ops := o.1, loops := p.1 }, p.2)
theorem rdFlat_le {bs : List UInt8} {s : RS} (h : s.at' ≤ bs.length) : (rdFlat bs s).2.at' ≤ bs.length := rdList_le (fun _ => rdLoop_le) (rdList_le (fun _ => rdOp_le) (rdNums_le (rdText_le h)))
def rdJob (bs : List UInt8) (s : RS) : DJob × RS :=
  let a := rdText bs s
  let l := rdNums bs 3 a.2
  let o := rdList bs rdNum l.2
  let p := rdList bs rdNum o.2
  let b := rdNum bs p.2
  ({ name := a.1, interval := l.1.getD 0 0, single := l.1.getD 1 0, priority := l.1.getD 2 0, codes := o.1, bases := p.1, bound := b.1 }, b.2)
theorem rdJob_le {bs : List UInt8} {s : RS} (h : s.at' ≤ bs.length) : (rdJob bs s).2.at' ≤ bs.length := rdNum_le (rdList_le (fun _ => rdNum_le) (rdList_le (fun _ => rdNum_le) (rdNums_le (rdText_le h))))
set_option maxRecDepth 100000 in
theorem flatIs (H : AS) (id : Nat) (bs : List UInt8) (c : Nat) (s : RS) (hr : RdOk H id bs c s) : ACalls Tryz.prog 25 [.ptr id 1 0 0] H fun q H' => q = .agg ((rdFlat bs s).1.row H.color) ∧ H' = H.setBox id [rrow bs c (rdFlat bs s).2] := by
 refine ACalls_intro Tryz.func25 rfl (by kernel_rfl) (by simp) fun hwf hbel => ?_
 have hid := hr.lt hwf
 have hx0 : ¬ H.next = id := by omega
 have hx1 : ¬ H.next + 1 = id := by omega
 have hy0 : ¬ id = H.next := by omega
 have hy1 : ¬ id = H.next + 1 := by omega
 have hx2 : ¬ H.next + 2 = id := by omega
 have hy2 : ¬ id = H.next + 2 := by omega
 refine T_mid (fun F H' => F 0 = .ptr id 1 0 0 ∧ F 2 = .ptr H.next 1 0 0 ∧ Rdg H H' id bs c s ∧ H'.box H.next = some [[.val (.string ⟨#[]⟩), pi 0, pi 0, pi 0, pi 0, pi 0, .nil, .nil]] ∧ H'.next = H.next + 1) ?_ ?_
 refine T_rg ?_
 simp [↓put_at, ↓AF.ev_tmp, ↓ex_cons, ↓ex_nil, ↓ex_alloc, aalloc, frame0, hx0, hx1, hx2, hy0, hy1, hy2]
 exact ((Rdg.start hr).other (Nat.le_refl _) hid).bump
 rintro F H' ⟨g0, g2, hg, b2, hn⟩
 refine T_mid (fun F H' => F 0 = .ptr id 1 0 0 ∧ F 2 = .ptr H.next 1 0 0 ∧ F 3 = .ptr (H.next + 1) 1 0 0 ∧ Rdg H H' id bs c (rdText bs s).2 ∧ H'.box H.next = some [[.val (.string ⟨#[]⟩), pi 0, pi 0, pi 0, pi 0, pi 0, .nil, .nil]] ∧ H'.box (H.next + 1) = some [[ps (rdText bs s).1, pi 0, pi 0, pi 0, pi 0, pi 0, .nil, .nil]] ∧ H'.next = H.next + 2) ?_ ?_
 refine T_rg ?_
 simp [↓put_at, ↓AF.ev_tmp, ↓ex_cons, ↓ex_nil, ↓ex_move, ↓ex_call, ↓AF.ev_func, ↓ex_build, ↓ex_alloc, ↓ex_store, aBuild, aBuild.go, splice, aalloc, astore, frame0, hx0, hx1, hx2, hy0, hy1, hy2, g0, g2, hn, b2]
 refine callK.of (textIs _ id bs c _ hg.ok) ?_
 rintro _ H2 ⟨rfl, rfl⟩
 simp [↓put_at, ↓AF.ev_tmp, ↓ex_cons, ↓ex_nil, ↓ex_move, ↓ex_call, ↓AF.ev_func, ↓ex_build, ↓ex_alloc, ↓ex_store, aBuild, aBuild.go, splice, aalloc, astore, frame0, hx0, hx1, hx2, hy0, hy1, hy2, g0, g2, hn, b2]
 exact ((((hg.step (rdText_le hr.le)).other (by omega) hid).bump).other (by omega) hid)
 rintro F H' ⟨g0, g2, g3, hg, b2, b3, hn⟩
 refine T_seqk fun K0 hK0 => ?_
 refine T_sr fun K1 hK1 => ?_
 simp [↓put_at, ↓AF.ev_tmp, ↓ex_cons, ↓ex_nil, ↓ex_fieldAddr, ↓ex_buildSlice, ↓ex_len, ↓ex_move, ↓AF.ev_int, aFieldAddr, abuildSlice, aLen, frame0, hx0, hx1, hx2, hy0, hy1, hy2, g0, g2, g0, g2, g3, hn, b2, b3, frzR_id]
 refine hK1 _ _ ?_
 try clear hK1 K1
 refine T_block ?_
 refine T_loop (fun k F H' => ∃ i : Nat, k = 5 - i ∧ i ≤ 5 ∧ F 0 = .ptr id 1 0 0 ∧ F 2 = .ptr H.next 1 0 0 ∧ F 3 = .ptr (H.next + 1) 1 0 0 ∧ F 14 = .msl (H.next + 2) 5 1 ∧ F 15 = pi 5 ∧ F 16 = pi i ∧ Rdg H H' id bs c (rdNums bs i (rdText bs s).2).2 ∧ H'.box H.next = some [[.val (.string ⟨#[]⟩), pi 0, pi 0, pi 0, pi 0, pi 0, .nil, .nil]] ∧ H'.box (H.next + 1) = some [prow [ps (rdText bs s).1] 5 (rdNums bs i (rdText bs s).2).1 [.nil, .nil]] ∧ H'.box (H.next + 2) = some (ptrs (H.next + 1) 1 5) ∧ H'.next = H.next + 3) (5) ?_ ?_
 refine ⟨0, ?_⟩
 simp [g0, g2, g3, b2, b3, hn, rdNums, prow, ptrs]
 exact (Rdg.other (j := H.next + 2) hg (by omega) hid).bump
 rintro k F H' ⟨i, rfl, hile, g0, g2, g3, g14, g15, g16, hg, b2, b3, b4, hn⟩
 refine T_sr fun K2 hK2 => ?_
 simp [↓put_at, ↓AF.ev_tmp, ↓ex_cons, ↓ex_nil, ↓ex_binOp, aBin, aBinV, frame0, hx0, hx1, hx2, hy0, hy1, hy2, g0, g2, g0, g2, g3, g0, g2, g3, g14, g15, g16]
 refine hK2 _ _ ?_
 try clear hK2 K2
 refine T_seqk fun K3 hK3 => ?_
 refine T_cond (by first | rfl | exact g0 | exact g2 | exact g0 | exact g2 | exact g3 | exact g0 | exact g2 | exact g3 | exact g14 | exact g15 | exact g16) (fun c0 => ?_) (fun c0 => ?_)
 have hlt : i < 5 := by simp at c0; omega
 have hi9 : i ≤ 6 := by omega
 have hpl : (prow [ps (rdText bs s).1] 5 (rdNums bs i (rdText bs s).2).1 [.nil, .nil]).length = 8 := by rw [prow_length (by simp; omega)]; rfl
 refine T_skip ?_
 try simp only [tN, bN, lN]
 refine hK3 _ _ ?_
 try clear hK3 K3
 refine T_seqk fun K4 hK4 => ?_
 refine T_block ?_
 refine T_sr fun K5 hK5 => ?_
 simp [↓put_at, ↓AF.ev_tmp, ↓ex_cons, ↓ex_nil, ↓ex_indexAddr, ↓ex_load, ↓ex_assign, aIndexAddr, aload, frame0, hx0, hx1, hx2, hy0, hy1, hy2, g0, g2, g0, g2, g3, g0, g2, g3, g14, g15, g16, aIndexAddr, amsl hlt, b4, ptrs_get hlt, part_ptr]
 refine hK5 _ _ ?_
 try clear hK5 K5
 refine T_rg ?_
 simp [↓put_at, ↓AF.ev_tmp, ↓ex_cons, ↓ex_nil, ↓ex_move, ↓ex_call, ↓AF.ev_func, ↓ex_nilCheck, ↓ex_store, astore, frame0, hx0, hx1, hx2, hy0, hy1, hy2, g0, g2, g0, g2, g3, g0, g2, g3, g14, g15, g16, b2, b3, b4, hpl, hi9, Nat.add_comm 1 i]
 refine callK.of (numIs _ id bs c _ hg.ok) ?_
 rintro _ H2 ⟨rfl, rfl⟩
 simp [↓put_at, ↓AF.ev_tmp, ↓ex_cons, ↓ex_nil, ↓ex_move, ↓ex_call, ↓AF.ev_func, ↓ex_nilCheck, ↓ex_store, astore, frame0, hx0, hx1, hx2, hy0, hy1, hy2, g0, g2, g0, g2, g3, g0, g2, g3, g14, g15, g16, b2, b3, b4, hpl, hi9, Nat.add_comm 1 i]
 refine hK4 _ _ ?_
 try clear hK4 K4
 refine T_rg ?_
 simp [↓put_at, ↓AF.ev_tmp, ↓ex_cons, ↓ex_nil, ↓ex_binOp, ↓AF.ev_int, ↓ex_move, aBin, aBinV, frame0, hx0, hx1, hx2, hy0, hy1, hy2, g0, g2, g0, g2, g3, g0, g2, g3, g14, g15, g16]
 refine ⟨5 - (i + 1), by omega, i + 1, rfl, by omega, by rw [wrap_i64 (by omega) (by omega)]; rfl, (hg.step (rdNums_le (n := i + 1) (rdText_le hr.le))).other (by omega) hid, b2, ?_, b4, hn⟩
 simpa [rdNums, Nat.add_comm] using prow_step (pre := [ps (rdText bs s).1]) (n := 5) (i := i) (o := 1) (nums := (rdNums bs i (rdText bs s).2).1) (post := [.nil, .nil]) (by simp) rfl hlt (rdNum bs (rdNums bs i (rdText bs s).2).2).1
 have hlt : i = 5 := by simp at c0; omega
 subst hlt
 have hcol : H'.color = H.color := hg.ext.color
 rw [list5 (rdNums_length (bs := bs) (n := 5) (s := (rdText bs s).2))] at b3
 simp only [prow, List.map_cons, List.map_nil, List.nil_append, List.cons_append, List.length_cons, List.length_nil, Nat.reduceAdd, Nat.sub_self, List.replicate_zero] at b3
 refine T_exit ?_
 try simp only [tE, bE, lE, if_true, Nat.reduceEqDiff, if_false, reduceIte, tN, bN, lN]
 refine hK0 _ _ ?_
 try clear hK0 K0
 refine T_mid (fun F H' => F 0 = .ptr id 1 0 0 ∧ F 2 = .ptr H.next 1 0 0 ∧ F 3 = .ptr (H.next + 1) 1 0 0 ∧ Rdg H H' id bs c (rdList bs rdOp (rdNums bs 5 (rdText bs s).2).2).2 ∧ H'.box H.next = some [[.val (.string ⟨#[]⟩), pi 0, pi 0, pi 0, pi 0, pi 0, .nil, .nil]] ∧ H'.box (H.next + 1) = some [[ps (rdText bs s).1, pi ((rdNums bs 5 (rdText bs s).2).1.getD 0 0), pi ((rdNums bs 5 (rdText bs s).2).1.getD 1 0), pi ((rdNums bs 5 (rdText bs s).2).1.getD 2 0), pi ((rdNums bs 5 (rdText bs s).2).1.getD 3 0), pi ((rdNums bs 5 (rdText bs s).2).1.getD 4 0), PV.sl H.color 10 ((rdList bs rdOp (rdNums bs 5 (rdText bs s).2).2).1.map DOp.row), .nil]] ∧ H'.next = H.next + 3 ∧ H'.color = H.color) ?_ ?_
 refine T_rg ?_
 simp [↓put_at, ↓AF.ev_tmp, ↓ex_cons, ↓ex_nil, ↓ex_move, ↓ex_makeFunc, ↓ex_call, ↓AF.ev_func, ↓ex_fieldAddr, ↓ex_store, aFieldAddr, astore, splice, frame0, hx0, hx1, hx2, hy0, hy1, hy2, g0, g2, g0, g2, g3, g0, g2, g3, g14, g15, g16, hn, b2, b3, hcol]
 refine callK.of (opsIs _ id bs c _ hg.ok) ?_
 rintro _ H2 ⟨rfl, rfl⟩
 simp [↓put_at, ↓AF.ev_tmp, ↓ex_cons, ↓ex_nil, ↓ex_move, ↓ex_makeFunc, ↓ex_call, ↓AF.ev_func, ↓ex_fieldAddr, ↓ex_store, aFieldAddr, astore, splice, frame0, hx0, hx1, hx2, hy0, hy1, hy2, g0, g2, g0, g2, g3, g0, g2, g3, g14, g15, g16, hn, b2, b3, hcol]
 exact (hg.step (rdList_le (fun _ => rdOp_le) (rdNums_le (rdText_le hr.le)))).other (by omega) hid
 rintro F H' ⟨g0, g2, g3, hg, b2, b3, hn, hcol⟩
 refine T_mid (fun F H' => F 0 = .ptr id 1 0 0 ∧ F 2 = .ptr H.next 1 0 0 ∧ F 3 = .ptr (H.next + 1) 1 0 0 ∧ Rdg H H' id bs c (rdList bs rdLoop (rdList bs rdOp (rdNums bs 5 (rdText bs s).2).2).2).2 ∧ H'.box H.next = some [[.val (.string ⟨#[]⟩), pi 0, pi 0, pi 0, pi 0, pi 0, .nil, .nil]] ∧ H'.box (H.next + 1) = some [[ps (rdText bs s).1, pi ((rdNums bs 5 (rdText bs s).2).1.getD 0 0), pi ((rdNums bs 5 (rdText bs s).2).1.getD 1 0), pi ((rdNums bs 5 (rdText bs s).2).1.getD 2 0), pi ((rdNums bs 5 (rdText bs s).2).1.getD 3 0), pi ((rdNums bs 5 (rdText bs s).2).1.getD 4 0), PV.sl H.color 10 ((rdList bs rdOp (rdNums bs 5 (rdText bs s).2).2).1.map DOp.row), PV.sl H.color 3 ((rdList bs rdLoop (rdList bs rdOp (rdNums bs 5 (rdText bs s).2).2).2).1.map DLoop.row)]] ∧ H'.next = H.next + 3 ∧ H'.color = H.color) ?_ ?_
 refine T_rg ?_
 simp [↓put_at, ↓AF.ev_tmp, ↓ex_cons, ↓ex_nil, ↓ex_move, ↓ex_makeFunc, ↓ex_call, ↓AF.ev_func, ↓ex_fieldAddr, ↓ex_store, aFieldAddr, astore, splice, frame0, hx0, hx1, hx2, hy0, hy1, hy2, g0, g2, g0, g2, g3, g0, g2, g3, g14, g15, g16, g0, g2, g3, hn, b2, b3, hcol]
 refine callK.of (loopsIs _ id bs c _ hg.ok) ?_
 rintro _ H2 ⟨rfl, rfl⟩
 simp [↓put_at, ↓AF.ev_tmp, ↓ex_cons, ↓ex_nil, ↓ex_move, ↓ex_makeFunc, ↓ex_call, ↓AF.ev_func, ↓ex_fieldAddr, ↓ex_store, aFieldAddr, astore, splice, frame0, hx0, hx1, hx2, hy0, hy1, hy2, g0, g2, g0, g2, g3, g0, g2, g3, g14, g15, g16, g0, g2, g3, hn, b2, b3, hcol]
 exact (hg.step (rdList_le (fun _ => rdLoop_le) (rdList_le (fun _ => rdOp_le) (rdNums_le (rdText_le hr.le))))).other (by omega) hid
 rintro F H' ⟨g0, g2, g3, hg, b2, b3, hn, hcol⟩
 refine T_sr fun K6 hK6 => ?_
 simp [↓put_at, ↓AF.ev_tmp, ↓ex_cons, ↓ex_nil, ↓ex_load, ↓ex_store, aload, partOf, astore, splice, frame0, hx0, hx1, hx2, hy0, hy1, hy2, g0, g2, g0, g2, g3, g0, g2, g3, g14, g15, g16, g0, g2, g3, g0, g2, g3, b2, b3]
 refine hK6 _ _ ?_
 try clear hK6 K6
 refine T_ret ?_
 try simp only [tR, bR, lR]
 refine owes_one_at (H1 := H.setBox id [rrow bs c (rdFlat bs s).2]) (.inr rfl) (hr.wf hwf _) (by simp) (by rw [show Tryz.f25.results.toList = [.cell 2 48] from rfl]; simp [aResults, aload, partOf, g2]; rfl) rfl (hg.ext.setBox (Nat.le_refl _)) (by simp [DFlat.row]) ?_
 exact .agg (below_rowFlat _ _ (rdFlat bs s).1)
set_option maxRecDepth 100000 in
theorem jobIs (H : AS) (id : Nat) (bs : List UInt8) (c : Nat) (s : RS) (hr : RdOk H id bs c s) : ACalls Tryz.prog 27 [.ptr id 1 0 0] H fun q H' => q = .agg ((rdJob bs s).1.row H.color) ∧ H' = H.setBox id [rrow bs c (rdJob bs s).2] := by
 refine ACalls_intro Tryz.func27 rfl (by kernel_rfl) (by simp) fun hwf hbel => ?_
 have hid := hr.lt hwf
 have hx0 : ¬ H.next = id := by omega
 have hx1 : ¬ H.next + 1 = id := by omega
 have hy0 : ¬ id = H.next := by omega
 have hy1 : ¬ id = H.next + 1 := by omega
 have hx2 : ¬ H.next + 2 = id := by omega
 have hy2 : ¬ id = H.next + 2 := by omega
 refine T_mid (fun F H' => F 0 = .ptr id 1 0 0 ∧ F 2 = .ptr H.next 1 0 0 ∧ Rdg H H' id bs c s ∧ H'.box H.next = some [[.val (.string ⟨#[]⟩), pi 0, pi 0, pi 0, .nil, .nil, pi 0]] ∧ H'.next = H.next + 1) ?_ ?_
 refine T_rg ?_
 simp [↓put_at, ↓AF.ev_tmp, ↓ex_cons, ↓ex_nil, ↓ex_alloc, aalloc, frame0, hx0, hx1, hx2, hy0, hy1, hy2]
 exact ((Rdg.start hr).other (Nat.le_refl _) hid).bump
 rintro F H' ⟨g0, g2, hg, b2, hn⟩
 refine T_mid (fun F H' => F 0 = .ptr id 1 0 0 ∧ F 2 = .ptr H.next 1 0 0 ∧ F 3 = .ptr (H.next + 1) 1 0 0 ∧ Rdg H H' id bs c (rdText bs s).2 ∧ H'.box H.next = some [[.val (.string ⟨#[]⟩), pi 0, pi 0, pi 0, .nil, .nil, pi 0]] ∧ H'.box (H.next + 1) = some [[ps (rdText bs s).1, pi 0, pi 0, pi 0, .nil, .nil, pi 0]] ∧ H'.next = H.next + 2) ?_ ?_
 refine T_rg ?_
 simp [↓put_at, ↓AF.ev_tmp, ↓ex_cons, ↓ex_nil, ↓ex_move, ↓ex_call, ↓AF.ev_func, ↓ex_build, ↓ex_alloc, ↓ex_store, aBuild, aBuild.go, splice, aalloc, astore, frame0, hx0, hx1, hx2, hy0, hy1, hy2, g0, g2, hn, b2]
 refine callK.of (textIs _ id bs c _ hg.ok) ?_
 rintro _ H2 ⟨rfl, rfl⟩
 simp [↓put_at, ↓AF.ev_tmp, ↓ex_cons, ↓ex_nil, ↓ex_move, ↓ex_call, ↓AF.ev_func, ↓ex_build, ↓ex_alloc, ↓ex_store, aBuild, aBuild.go, splice, aalloc, astore, frame0, hx0, hx1, hx2, hy0, hy1, hy2, g0, g2, hn, b2]
 exact ((((hg.step (rdText_le hr.le)).other (by omega) hid).bump).other (by omega) hid)
 rintro F H' ⟨g0, g2, g3, hg, b2, b3, hn⟩
 refine T_seqk fun K0 hK0 => ?_
 refine T_sr fun K1 hK1 => ?_
 simp [↓put_at, ↓AF.ev_tmp, ↓ex_cons, ↓ex_nil, ↓ex_fieldAddr, ↓ex_buildSlice, ↓ex_len, ↓ex_move, ↓AF.ev_int, aFieldAddr, abuildSlice, aLen, frame0, hx0, hx1, hx2, hy0, hy1, hy2, g0, g2, g0, g2, g3, hn, b2, b3, frzR_id]
 refine hK1 _ _ ?_
 try clear hK1 K1
 refine T_block ?_
 refine T_loop (fun k F H' => ∃ i : Nat, k = 3 - i ∧ i ≤ 3 ∧ F 0 = .ptr id 1 0 0 ∧ F 2 = .ptr H.next 1 0 0 ∧ F 3 = .ptr (H.next + 1) 1 0 0 ∧ F 12 = .msl (H.next + 2) 3 1 ∧ F 13 = pi 3 ∧ F 14 = pi i ∧ Rdg H H' id bs c (rdNums bs i (rdText bs s).2).2 ∧ H'.box H.next = some [[.val (.string ⟨#[]⟩), pi 0, pi 0, pi 0, .nil, .nil, pi 0]] ∧ H'.box (H.next + 1) = some [prow [ps (rdText bs s).1] 3 (rdNums bs i (rdText bs s).2).1 [.nil, .nil, pi 0]] ∧ H'.box (H.next + 2) = some (ptrs (H.next + 1) 1 3) ∧ H'.next = H.next + 3) (3) ?_ ?_
 refine ⟨0, ?_⟩
 simp [g0, g2, g3, b2, b3, hn, rdNums, prow, ptrs]
 exact (Rdg.other (j := H.next + 2) hg (by omega) hid).bump
 rintro k F H' ⟨i, rfl, hile, g0, g2, g3, g12, g13, g14, hg, b2, b3, b4, hn⟩
 refine T_sr fun K2 hK2 => ?_
 simp [↓put_at, ↓AF.ev_tmp, ↓ex_cons, ↓ex_nil, ↓ex_binOp, aBin, aBinV, frame0, hx0, hx1, hx2, hy0, hy1, hy2, g0, g2, g0, g2, g3, g0, g2, g3, g12, g13, g14]
 refine hK2 _ _ ?_
 try clear hK2 K2
 refine T_seqk fun K3 hK3 => ?_
 refine T_cond (by first | rfl | exact g0 | exact g2 | exact g0 | exact g2 | exact g3 | exact g0 | exact g2 | exact g3 | exact g12 | exact g13 | exact g14) (fun c0 => ?_) (fun c0 => ?_)
 have hlt : i < 3 := by simp at c0; omega
 have hi9 : i ≤ 5 := by omega
 have hpl : (prow [ps (rdText bs s).1] 3 (rdNums bs i (rdText bs s).2).1 [.nil, .nil, pi 0]).length = 7 := by rw [prow_length (by simp; omega)]; rfl
 refine T_skip ?_
 try simp only [tN, bN, lN]
 refine hK3 _ _ ?_
 try clear hK3 K3
 refine T_seqk fun K4 hK4 => ?_
 refine T_block ?_
 refine T_sr fun K5 hK5 => ?_
 simp [↓put_at, ↓AF.ev_tmp, ↓ex_cons, ↓ex_nil, ↓ex_indexAddr, ↓ex_load, ↓ex_assign, aIndexAddr, aload, frame0, hx0, hx1, hx2, hy0, hy1, hy2, g0, g2, g0, g2, g3, g0, g2, g3, g12, g13, g14, aIndexAddr, amsl hlt, b4, ptrs_get hlt, part_ptr]
 refine hK5 _ _ ?_
 try clear hK5 K5
 refine T_rg ?_
 simp [↓put_at, ↓AF.ev_tmp, ↓ex_cons, ↓ex_nil, ↓ex_move, ↓ex_call, ↓AF.ev_func, ↓ex_nilCheck, ↓ex_store, astore, frame0, hx0, hx1, hx2, hy0, hy1, hy2, g0, g2, g0, g2, g3, g0, g2, g3, g12, g13, g14, b2, b3, b4, hpl, hi9, Nat.add_comm 1 i]
 refine callK.of (numIs _ id bs c _ hg.ok) ?_
 rintro _ H2 ⟨rfl, rfl⟩
 simp [↓put_at, ↓AF.ev_tmp, ↓ex_cons, ↓ex_nil, ↓ex_move, ↓ex_call, ↓AF.ev_func, ↓ex_nilCheck, ↓ex_store, astore, frame0, hx0, hx1, hx2, hy0, hy1, hy2, g0, g2, g0, g2, g3, g0, g2, g3, g12, g13, g14, b2, b3, b4, hpl, hi9, Nat.add_comm 1 i]
 refine hK4 _ _ ?_
 try clear hK4 K4
 refine T_rg ?_
 simp [↓put_at, ↓AF.ev_tmp, ↓ex_cons, ↓ex_nil, ↓ex_binOp, ↓AF.ev_int, ↓ex_move, aBin, aBinV, frame0, hx0, hx1, hx2, hy0, hy1, hy2, g0, g2, g0, g2, g3, g0, g2, g3, g12, g13, g14]
 refine ⟨3 - (i + 1), by omega, i + 1, rfl, by omega, by rw [wrap_i64 (by omega) (by omega)]; rfl, (hg.step (rdNums_le (n := i + 1) (rdText_le hr.le))).other (by omega) hid, b2, ?_, b4, hn⟩
 simpa [rdNums, Nat.add_comm] using prow_step (pre := [ps (rdText bs s).1]) (n := 3) (i := i) (o := 1) (nums := (rdNums bs i (rdText bs s).2).1) (post := [.nil, .nil, pi 0]) (by simp) rfl hlt (rdNum bs (rdNums bs i (rdText bs s).2).2).1
 have hlt : i = 3 := by simp at c0; omega
 subst hlt
 have hcol : H'.color = H.color := hg.ext.color
 rw [list3 (rdNums_length (bs := bs) (n := 3) (s := (rdText bs s).2))] at b3
 simp only [prow, List.map_cons, List.map_nil, List.nil_append, List.cons_append, List.length_cons, List.length_nil, Nat.reduceAdd, Nat.sub_self, List.replicate_zero] at b3
 refine T_exit ?_
 try simp only [tE, bE, lE, if_true, Nat.reduceEqDiff, if_false, reduceIte, tN, bN, lN]
 refine hK0 _ _ ?_
 try clear hK0 K0
 refine T_mid (fun F H' => F 0 = .ptr id 1 0 0 ∧ F 2 = .ptr H.next 1 0 0 ∧ F 3 = .ptr (H.next + 1) 1 0 0 ∧ Rdg H H' id bs c (rdList bs rdNum (rdNums bs 3 (rdText bs s).2).2).2 ∧ H'.box H.next = some [[.val (.string ⟨#[]⟩), pi 0, pi 0, pi 0, .nil, .nil, pi 0]] ∧ H'.box (H.next + 1) = some [[ps (rdText bs s).1, pi ((rdNums bs 3 (rdText bs s).2).1.getD 0 0), pi ((rdNums bs 3 (rdText bs s).2).1.getD 1 0), pi ((rdNums bs 3 (rdText bs s).2).1.getD 2 0), PV.sl H.color 1 ((rdList bs rdNum (rdNums bs 3 (rdText bs s).2).2).1.map irow), .nil, pi 0]] ∧ H'.next = H.next + 3 ∧ H'.color = H.color) ?_ ?_
 refine T_rg ?_
 simp [↓put_at, ↓AF.ev_tmp, ↓ex_cons, ↓ex_nil, ↓ex_move, ↓ex_makeFunc, ↓ex_call, ↓AF.ev_func, ↓ex_fieldAddr, ↓ex_store, aFieldAddr, astore, splice, frame0, hx0, hx1, hx2, hy0, hy1, hy2, g0, g2, g0, g2, g3, g0, g2, g3, g12, g13, g14, hn, b2, b3, hcol]
 refine callK.of (intsIs _ id bs c _ hg.ok) ?_
 rintro _ H2 ⟨rfl, rfl⟩
 simp [↓put_at, ↓AF.ev_tmp, ↓ex_cons, ↓ex_nil, ↓ex_move, ↓ex_makeFunc, ↓ex_call, ↓AF.ev_func, ↓ex_fieldAddr, ↓ex_store, aFieldAddr, astore, splice, frame0, hx0, hx1, hx2, hy0, hy1, hy2, g0, g2, g0, g2, g3, g0, g2, g3, g12, g13, g14, hn, b2, b3, hcol]
 exact (hg.step (rdList_le (fun _ => rdNum_le) (rdNums_le (rdText_le hr.le)))).other (by omega) hid
 rintro F H' ⟨g0, g2, g3, hg, b2, b3, hn, hcol⟩
 refine T_mid (fun F H' => F 0 = .ptr id 1 0 0 ∧ F 2 = .ptr H.next 1 0 0 ∧ F 3 = .ptr (H.next + 1) 1 0 0 ∧ Rdg H H' id bs c (rdList bs rdNum (rdList bs rdNum (rdNums bs 3 (rdText bs s).2).2).2).2 ∧ H'.box H.next = some [[.val (.string ⟨#[]⟩), pi 0, pi 0, pi 0, .nil, .nil, pi 0]] ∧ H'.box (H.next + 1) = some [[ps (rdText bs s).1, pi ((rdNums bs 3 (rdText bs s).2).1.getD 0 0), pi ((rdNums bs 3 (rdText bs s).2).1.getD 1 0), pi ((rdNums bs 3 (rdText bs s).2).1.getD 2 0), PV.sl H.color 1 ((rdList bs rdNum (rdNums bs 3 (rdText bs s).2).2).1.map irow), PV.sl H.color 1 ((rdList bs rdNum (rdList bs rdNum (rdNums bs 3 (rdText bs s).2).2).2).1.map irow), pi 0]] ∧ H'.next = H.next + 3 ∧ H'.color = H.color) ?_ ?_
 refine T_rg ?_
 simp [↓put_at, ↓AF.ev_tmp, ↓ex_cons, ↓ex_nil, ↓ex_move, ↓ex_makeFunc, ↓ex_call, ↓AF.ev_func, ↓ex_fieldAddr, ↓ex_store, aFieldAddr, astore, splice, frame0, hx0, hx1, hx2, hy0, hy1, hy2, g0, g2, g0, g2, g3, g0, g2, g3, g12, g13, g14, g0, g2, g3, hn, b2, b3, hcol]
 refine callK.of (intsIs _ id bs c _ hg.ok) ?_
 rintro _ H2 ⟨rfl, rfl⟩
 simp [↓put_at, ↓AF.ev_tmp, ↓ex_cons, ↓ex_nil, ↓ex_move, ↓ex_makeFunc, ↓ex_call, ↓AF.ev_func, ↓ex_fieldAddr, ↓ex_store, aFieldAddr, astore, splice, frame0, hx0, hx1, hx2, hy0, hy1, hy2, g0, g2, g0, g2, g3, g0, g2, g3, g12, g13, g14, g0, g2, g3, hn, b2, b3, hcol]
 exact (hg.step (rdList_le (fun _ => rdNum_le) (rdList_le (fun _ => rdNum_le) (rdNums_le (rdText_le hr.le))))).other (by omega) hid
 rintro F H' ⟨g0, g2, g3, hg, b2, b3, hn, hcol⟩
 refine T_mid (fun F H' => F 0 = .ptr id 1 0 0 ∧ F 2 = .ptr H.next 1 0 0 ∧ F 3 = .ptr (H.next + 1) 1 0 0 ∧ Rdg H H' id bs c (rdNum bs (rdList bs rdNum (rdList bs rdNum (rdNums bs 3 (rdText bs s).2).2).2).2).2 ∧ H'.box H.next = some [[.val (.string ⟨#[]⟩), pi 0, pi 0, pi 0, .nil, .nil, pi 0]] ∧ H'.box (H.next + 1) = some [[ps (rdText bs s).1, pi ((rdNums bs 3 (rdText bs s).2).1.getD 0 0), pi ((rdNums bs 3 (rdText bs s).2).1.getD 1 0), pi ((rdNums bs 3 (rdText bs s).2).1.getD 2 0), PV.sl H.color 1 ((rdList bs rdNum (rdNums bs 3 (rdText bs s).2).2).1.map irow), PV.sl H.color 1 ((rdList bs rdNum (rdList bs rdNum (rdNums bs 3 (rdText bs s).2).2).2).1.map irow), pi (rdNum bs (rdList bs rdNum (rdList bs rdNum (rdNums bs 3 (rdText bs s).2).2).2).2).1]] ∧ H'.next = H.next + 3 ∧ H'.color = H.color) ?_ ?_
 refine T_rg ?_
 simp [↓put_at, ↓AF.ev_tmp, ↓ex_cons, ↓ex_nil, ↓ex_move, ↓ex_call, ↓AF.ev_func, ↓ex_fieldAddr, ↓ex_store, aFieldAddr, astore, splice, frame0, hx0, hx1, hx2, hy0, hy1, hy2, g0, g2, g0, g2, g3, g0, g2, g3, g12, g13, g14, g0, g2, g3, g0, g2, g3, hn, b2, b3, hcol]
 refine callK.of (numIs _ id bs c _ hg.ok) ?_
 rintro _ H2 ⟨rfl, rfl⟩
 simp [↓put_at, ↓AF.ev_tmp, ↓ex_cons, ↓ex_nil, ↓ex_move, ↓ex_call, ↓AF.ev_func, ↓ex_fieldAddr, ↓ex_store, aFieldAddr, astore, splice, frame0, hx0, hx1, hx2, hy0, hy1, hy2, g0, g2, g0, g2, g3, g0, g2, g3, g12, g13, g14, g0, g2, g3, g0, g2, g3, hn, b2, b3, hcol]
 exact (hg.step (rdNum_le (rdList_le (fun _ => rdNum_le) (rdList_le (fun _ => rdNum_le) (rdNums_le (rdText_le hr.le)))))).other (by omega) hid
 rintro F H' ⟨g0, g2, g3, hg, b2, b3, hn, hcol⟩
 refine T_sr fun K6 hK6 => ?_
 simp [↓put_at, ↓AF.ev_tmp, ↓ex_cons, ↓ex_nil, ↓ex_load, ↓ex_store, aload, partOf, astore, splice, frame0, hx0, hx1, hx2, hy0, hy1, hy2, g0, g2, g0, g2, g3, g0, g2, g3, g12, g13, g14, g0, g2, g3, g0, g2, g3, g0, g2, g3, b2, b3]
 refine hK6 _ _ ?_
 try clear hK6 K6
 refine T_ret ?_
 try simp only [tR, bR, lR]
 refine owes_one_at (H1 := H.setBox id [rrow bs c (rdJob bs s).2]) (.inr rfl) (hr.wf hwf _) (by simp) (by rw [show Tryz.f27.results.toList = [.cell 2 55] from rfl]; simp [aResults, aload, partOf, g2]; rfl) rfl (hg.ext.setBox (Nat.le_refl _)) (by simp [DJob.row]) ?_
 exact .agg (below_rowJob _ _ (rdJob bs s).1)
set_option maxRecDepth 100000 in
theorem flatsIs (H : AS) (id : Nat) (bs : List UInt8) (c : Nat) (s : RS) (hr : RdOk H id bs c s) : ACalls Tryz.prog 24 [.ptr id 1 0 0, .bound 25 [.ptr id 1 0 0]] H fun q H' => q = PV.sl H.color 8 ((rdList bs rdFlat s).1.map (DFlat.row H.color)) ∧ H' = H.setBox id [rrow bs c (rdList bs rdFlat s).2] := by
 refine ACalls_intro Tryz.func24 rfl (by kernel_rfl) (by simp) fun hwf hbel => ?_
 have hid := hr.lt hwf
 have hle := hr.le
 have hsm := hr.small
 have hmm := rdMany_small (s := s) hle
 refine T_sr fun K0 hK0 => ?_
 simp [↓put_at, ↓AF.ev_tmp, ↓ex_cons, ↓ex_nil, ↓ex_assign, ↓AF.ev_slice, frame0]
 refine hK0 _ _ ?_
 try clear hK0 K0
 refine T_sr fun K1 hK1 => ?_
 simp [↓put_at, ↓AF.ev_tmp, ↓ex_cons, ↓ex_nil, ↓ex_assign, ↓AF.ev_slice, frame0]
 refine hK1 _ _ ?_
 try clear hK1 K1
 refine T_seqk fun K2 hK2 => ?_
 refine T_sr fun K3 hK3 => ?_
 simp [↓put_at, ↓AF.ev_tmp, ↓ex_cons, ↓ex_nil, ↓ex_move, ↓ex_call, ↓AF.ev_func, ↓AF.ev_int, frame0]
 refine callK.of (manyIs _ id bs c s hr) ?_
 rintro _ Hz ⟨rfl, hz⟩
 subst Hz
 simp [↓put_at, ↓AF.ev_tmp, ↓ex_cons, ↓ex_nil, ↓ex_move, ↓ex_call, ↓AF.ev_func, ↓AF.ev_int, frame0]
 refine hK3 _ _ ?_
 try clear hK3 K3
 refine T_block ?_
 refine T_loop (fun k F H' => ∃ (i : Nat) (acc : List DFlat) (s1 : RS), k = (rdMany bs s).1 - i ∧ i ≤ (rdMany bs s).1 ∧ F 0 = .ptr id 1 0 0 ∧ F 1 = .bound 25 [.ptr id 1 0 0] ∧ F 8 = pi (rdMany bs s).1 ∧ F 9 = pi i ∧ Rdg H H' id bs c s1 ∧ OutIs H.next H' (F 5) 8 (acc.map (DFlat.row H.color)) ∧ acc.length = i ∧ rdGo (rdFlat bs) (rdMany bs s).1 [] (rdMany bs s).2 = rdGo (rdFlat bs) ((rdMany bs s).1 - i) acc s1) ((rdMany bs s).1) ?_ ?_
 refine ⟨0, [], (rdMany bs s).2, ?_⟩
 simp [frame0]
 exact ⟨(Rdg.start hr).step (rdMany_le hle), .nil⟩
 rintro k F H1 ⟨i, acc, s1, rfl, hile, g0, g1, g8, g9, hg, hout, hal, hgo⟩
 refine T_sr fun K4 hK4 => ?_
 simp [↓put_at, ↓AF.ev_tmp, ↓ex_cons, ↓ex_nil, ↓ex_binOp, aBin, aBinV, frame0, g0, g1, g8, g9]
 refine hK4 _ _ ?_
 try clear hK4 K4
 refine T_seqk fun K5 hK5 => ?_
 refine T_cond (by first | rfl | exact g0 | exact g1 | exact g8 | exact g9) (fun c0 => ?_) (fun c0 => ?_)
 have hlt : i < (rdMany bs s).1 := by simp at c0; omega
 refine T_skip ?_
 try simp only [tN, bN, lN]
 refine hK5 _ _ ?_
 try clear hK5 K5
 refine T_seqk fun K6 hK6 => ?_
 refine T_block ?_
 refine T_mid (fun F H' => F 0 = .ptr id 1 0 0 ∧ F 1 = .bound 25 [.ptr id 1 0 0] ∧ F 8 = pi (rdMany bs s).1 ∧ F 9 = pi i ∧ F 6 = .ptr H1.next 1 0 0 ∧ Rdg H H' id bs c (rdFlat bs s1).2 ∧ H'.box H1.next = some [(DFlat.row H.color) (rdFlat bs s1).1] ∧ OutIs H.next H' (F 5) 8 (acc.map (DFlat.row H.color)) ∧ H1.next < H'.next) ?_ ?_
 refine T_rg ?_
 have hcol1 : H1.color = H.color := hg.ext.color
 simp [↓put_at, ↓AF.ev_tmp, ↓ex_cons, ↓ex_nil, ↓ex_move, ↓ex_call, ↓ex_alloc, ↓ex_store, astore, frame0, g0, g1, g8, g9, splice_flat, alloc_48, hcol1]
 refine callK.of (flatIs _ id bs c _ hg.ok) ?_
 rintro _ H2 ⟨rfl, rfl⟩
 simp [↓put_at, ↓AF.ev_tmp, ↓ex_cons, ↓ex_nil, ↓ex_move, ↓ex_call, ↓ex_alloc, ↓ex_store, astore, frame0, g0, g1, g8, g9, splice_flat, alloc_48, hcol1]
 have hn1 : H.next ≤ H1.next := by have := hg.ext.next; simpa using this
 exact ⟨(((hg.step (rdFlat_le hg.ok.le)).other hn1 hid).bump).other hn1 hid, hout.keep (by simp) (fun j hj hl => by simp [show j ≠ id by omega, show j ≠ H1.next by omega])⟩
 rintro F H' ⟨g0, g1, g8, g9, g6, hg, b6, hout, hlt1⟩
 refine T_seqk fun K7 hK7 => ?_
 refine T_sr fun K8 hK8 => ?_
 simp [↓put_at, ↓AF.ev_tmp, ↓ex_cons, ↓ex_nil, ↓ex_move, ↓ex_nilCheck, ↓ex_fieldAddr, ↓ex_load, ↓ex_binOp, ↓AF.ev_int, aFieldAddr, aload, partOf, aBin, aBinV, frame0, g0, g1, g8, g9, g0, g1, g8, g9, g6, hg.ok.box, rrow, int_bne]
 refine hK8 _ _ ?_
 try clear hK8 K8
 refine T_cond (by first | rfl | exact g0 | exact g1 | exact g8 | exact g9 | exact g0 | exact g1 | exact g8 | exact g9 | exact g6) (fun c1 => ?_) (fun c1 => ?_)
 have he : ¬ (rdFlat bs s1).2.e = 0 := by simpa using c1
 refine T_sr fun K9 hK9 => ?_
 simp [↓put_at, ↓AF.ev_tmp, ↓ex_cons, ↓ex_nil, ↓ex_assign, ↓AF.ev_slice, frame0, g0, g1, g8, g9, g0, g1, g8, g9, g6]
 refine hK9 _ _ ?_
 try clear hK9 K9
 refine T_ret ?_
 try simp only [tR, bR, lR]
 have e : rdList bs rdFlat s = ([], (rdFlat bs s1).2) := by
     unfold rdList; rw [hgo, show (rdMany bs s).1 - i = ((rdMany bs s).1 - (i + 1)) + 1 by omega, rdGo, if_neg he]
 rw [e]
 refine owes_out_at (H1 := H.setBox id [rrow bs c ([], (rdFlat bs s1).2).2]) (lo := H.next) (rows := []) (.inr rfl) (hr.wf hwf _) (by simp) rfl (.nil) (by simp) hg.ext ?_
 simp
 have he : (rdFlat bs s1).2.e = 0 := by simpa using c1
 refine T_skip ?_
 try simp only [tN, bN, lN]
 refine hK7 _ _ ?_
 try clear hK7 K7
 refine T_rg ?_
 simp [↓put_at, ↓AF.ev_tmp, ↓ex_cons, ↓ex_nil, ↓ex_move, ↓ex_load, ↓ex_buildSlice, ↓ex_append, ↓ex_assign, aload, abuildSlice, frame0, g0, g1, g8, g9, g0, g1, g8, g9, g6, b6, part_flat, frz_Flat]
 refine appendK.of (aappend_outT (lo := H.next) (rows := acc.map (DFlat.row H.color)) (ys := [(DFlat.row H.color) (rdFlat bs s1).1]) ?_ ?_ rfl rfl Tryz.sz48 Tryz.zero48 Tryz.by48 rfl rfl (by decide) ?_ (by intro r hr p hp; rw [List.mem_singleton] at hr; subst hr; exact frozen_rowFlat _ _ p hp) ?_ ?_)
 exact hout.keep (by simp) (fun j _ hj => by simp [Nat.ne_of_lt hj])
 have := hg.ext.next; simp at this ⊢; omega
 simp [srcOf]
 simp; omega
 intro p2 H3 hout2 hab hel
 have hext3 : (H.setBox id [rrow bs c (rdFlat bs s1).2]).Ext H3 := hab _ (by simp) (.bump (.setBox (by have := hg.ext.next; simp at this ⊢; omega) hg.ext))
 have hg3 : Rdg H H3 id bs c (rdFlat bs s1).2 := ⟨⟨by rw [hext3.box id (by simpa using hid)]; simp, hg.ok.le, hg.ok.small⟩, hext3⟩
 simp [↓put_at, ↓AF.ev_tmp, ↓ex_cons, ↓ex_nil, ↓ex_move, ↓ex_load, ↓ex_buildSlice, ↓ex_append, ↓ex_assign, aload, abuildSlice, frame0, g0, g1, g8, g9, g0, g1, g8, g9, g6, b6, part_flat, frz_Flat]
 refine hK6 _ _ ?_
 try clear hK6 K6
 refine T_rg ?_
 simp [↓put_at, ↓AF.ev_tmp, ↓ex_cons, ↓ex_nil, ↓ex_binOp, ↓AF.ev_int, ↓ex_move, aBin, aBinV, frame0, g0, g1, g8, g9, g0, g1, g8, g9, g6]
 refine ⟨(rdMany bs s).1 - (i + 1), by omega, i + 1, rfl, by omega, by rw [wrap_i64 (by omega) (by omega)]; rfl, acc ++ [(rdFlat bs s1).1], (rdFlat bs s1).2, hg3, by simpa using hout2, by simp [hal], ?_⟩
 rw [hgo, show (rdMany bs s).1 - i = ((rdMany bs s).1 - (i + 1)) + 1 by omega, rdGo, if_pos he]
 have hge : i = (rdMany bs s).1 := by simp at c0; omega
 subst hge
 refine T_exit ?_
 try simp only [tE, bE, lE, if_true, Nat.reduceEqDiff, if_false, reduceIte, tN, bN, lN]
 refine hK2 _ _ ?_
 try clear hK2 K2
 refine T_sr fun K10 hK10 => ?_
 simp [↓put_at, ↓AF.ev_tmp, ↓ex_cons, ↓ex_nil, ↓ex_move, ↓ex_assign, frame0, g0, g1, g8, g9]
 refine hK10 _ _ ?_
 try clear hK10 K10
 refine T_ret ?_
 try simp only [tR, bR, lR]
 have e : rdList bs rdFlat s = (acc, s1) := by
     unfold rdList; rw [hgo, Nat.sub_self]; rfl
 rw [e]
 refine owes_out_at (H1 := H.setBox id [rrow bs c (acc, s1).2]) (lo := H.next) (rows := acc.map (DFlat.row H.color)) (.inr rfl) (hr.wf hwf _) (by simp) rfl (hout) (by simp) hg.ext ?_
 intro r hr p hp
 obtain ⟨x, _, rfl⟩ := List.mem_map.1 hr
 exact below_rowFlat _ _ x p hp
set_option maxRecDepth 100000 in
theorem jobsIs (H : AS) (id : Nat) (bs : List UInt8) (c : Nat) (s : RS) (hr : RdOk H id bs c s) : ACalls Tryz.prog 26 [.ptr id 1 0 0, .bound 27 [.ptr id 1 0 0]] H fun q H' => q = PV.sl H.color 7 ((rdList bs rdJob s).1.map (DJob.row H.color)) ∧ H' = H.setBox id [rrow bs c (rdList bs rdJob s).2] := by
 refine ACalls_intro Tryz.func26 rfl (by kernel_rfl) (by simp) fun hwf hbel => ?_
 have hid := hr.lt hwf
 have hle := hr.le
 have hsm := hr.small
 have hmm := rdMany_small (s := s) hle
 refine T_sr fun K0 hK0 => ?_
 simp [↓put_at, ↓AF.ev_tmp, ↓ex_cons, ↓ex_nil, ↓ex_assign, ↓AF.ev_slice, frame0]
 refine hK0 _ _ ?_
 try clear hK0 K0
 refine T_sr fun K1 hK1 => ?_
 simp [↓put_at, ↓AF.ev_tmp, ↓ex_cons, ↓ex_nil, ↓ex_assign, ↓AF.ev_slice, frame0]
 refine hK1 _ _ ?_
 try clear hK1 K1
 refine T_seqk fun K2 hK2 => ?_
 refine T_sr fun K3 hK3 => ?_
 simp [↓put_at, ↓AF.ev_tmp, ↓ex_cons, ↓ex_nil, ↓ex_move, ↓ex_call, ↓AF.ev_func, ↓AF.ev_int, frame0]
 refine callK.of (manyIs _ id bs c s hr) ?_
 rintro _ Hz ⟨rfl, hz⟩
 subst Hz
 simp [↓put_at, ↓AF.ev_tmp, ↓ex_cons, ↓ex_nil, ↓ex_move, ↓ex_call, ↓AF.ev_func, ↓AF.ev_int, frame0]
 refine hK3 _ _ ?_
 try clear hK3 K3
 refine T_block ?_
 refine T_loop (fun k F H' => ∃ (i : Nat) (acc : List DJob) (s1 : RS), k = (rdMany bs s).1 - i ∧ i ≤ (rdMany bs s).1 ∧ F 0 = .ptr id 1 0 0 ∧ F 1 = .bound 27 [.ptr id 1 0 0] ∧ F 8 = pi (rdMany bs s).1 ∧ F 9 = pi i ∧ Rdg H H' id bs c s1 ∧ OutIs H.next H' (F 5) 7 (acc.map (DJob.row H.color)) ∧ acc.length = i ∧ rdGo (rdJob bs) (rdMany bs s).1 [] (rdMany bs s).2 = rdGo (rdJob bs) ((rdMany bs s).1 - i) acc s1) ((rdMany bs s).1) ?_ ?_
 refine ⟨0, [], (rdMany bs s).2, ?_⟩
 simp [frame0]
 exact ⟨(Rdg.start hr).step (rdMany_le hle), .nil⟩
 rintro k F H1 ⟨i, acc, s1, rfl, hile, g0, g1, g8, g9, hg, hout, hal, hgo⟩
 refine T_sr fun K4 hK4 => ?_
 simp [↓put_at, ↓AF.ev_tmp, ↓ex_cons, ↓ex_nil, ↓ex_binOp, aBin, aBinV, frame0, g0, g1, g8, g9]
 refine hK4 _ _ ?_
 try clear hK4 K4
 refine T_seqk fun K5 hK5 => ?_
 refine T_cond (by first | rfl | exact g0 | exact g1 | exact g8 | exact g9) (fun c0 => ?_) (fun c0 => ?_)
 have hlt : i < (rdMany bs s).1 := by simp at c0; omega
 refine T_skip ?_
 try simp only [tN, bN, lN]
 refine hK5 _ _ ?_
 try clear hK5 K5
 refine T_seqk fun K6 hK6 => ?_
 refine T_block ?_
 refine T_mid (fun F H' => F 0 = .ptr id 1 0 0 ∧ F 1 = .bound 27 [.ptr id 1 0 0] ∧ F 8 = pi (rdMany bs s).1 ∧ F 9 = pi i ∧ F 6 = .ptr H1.next 1 0 0 ∧ Rdg H H' id bs c (rdJob bs s1).2 ∧ H'.box H1.next = some [(DJob.row H.color) (rdJob bs s1).1] ∧ OutIs H.next H' (F 5) 7 (acc.map (DJob.row H.color)) ∧ H1.next < H'.next) ?_ ?_
 refine T_rg ?_
 have hcol1 : H1.color = H.color := hg.ext.color
 simp [↓put_at, ↓AF.ev_tmp, ↓ex_cons, ↓ex_nil, ↓ex_move, ↓ex_call, ↓ex_alloc, ↓ex_store, astore, frame0, g0, g1, g8, g9, splice_job, alloc_55, hcol1]
 refine callK.of (jobIs _ id bs c _ hg.ok) ?_
 rintro _ H2 ⟨rfl, rfl⟩
 simp [↓put_at, ↓AF.ev_tmp, ↓ex_cons, ↓ex_nil, ↓ex_move, ↓ex_call, ↓ex_alloc, ↓ex_store, astore, frame0, g0, g1, g8, g9, splice_job, alloc_55, hcol1]
 have hn1 : H.next ≤ H1.next := by have := hg.ext.next; simpa using this
 exact ⟨(((hg.step (rdJob_le hg.ok.le)).other hn1 hid).bump).other hn1 hid, hout.keep (by simp) (fun j hj hl => by simp [show j ≠ id by omega, show j ≠ H1.next by omega])⟩
 rintro F H' ⟨g0, g1, g8, g9, g6, hg, b6, hout, hlt1⟩
 refine T_seqk fun K7 hK7 => ?_
 refine T_sr fun K8 hK8 => ?_
 simp [↓put_at, ↓AF.ev_tmp, ↓ex_cons, ↓ex_nil, ↓ex_move, ↓ex_nilCheck, ↓ex_fieldAddr, ↓ex_load, ↓ex_binOp, ↓AF.ev_int, aFieldAddr, aload, partOf, aBin, aBinV, frame0, g0, g1, g8, g9, g0, g1, g8, g9, g6, hg.ok.box, rrow, int_bne]
 refine hK8 _ _ ?_
 try clear hK8 K8
 refine T_cond (by first | rfl | exact g0 | exact g1 | exact g8 | exact g9 | exact g0 | exact g1 | exact g8 | exact g9 | exact g6) (fun c1 => ?_) (fun c1 => ?_)
 have he : ¬ (rdJob bs s1).2.e = 0 := by simpa using c1
 refine T_sr fun K9 hK9 => ?_
 simp [↓put_at, ↓AF.ev_tmp, ↓ex_cons, ↓ex_nil, ↓ex_assign, ↓AF.ev_slice, frame0, g0, g1, g8, g9, g0, g1, g8, g9, g6]
 refine hK9 _ _ ?_
 try clear hK9 K9
 refine T_ret ?_
 try simp only [tR, bR, lR]
 have e : rdList bs rdJob s = ([], (rdJob bs s1).2) := by
     unfold rdList; rw [hgo, show (rdMany bs s).1 - i = ((rdMany bs s).1 - (i + 1)) + 1 by omega, rdGo, if_neg he]
 rw [e]
 refine owes_out_at (H1 := H.setBox id [rrow bs c ([], (rdJob bs s1).2).2]) (lo := H.next) (rows := []) (.inr rfl) (hr.wf hwf _) (by simp) rfl (.nil) (by simp) hg.ext ?_
 simp
 have he : (rdJob bs s1).2.e = 0 := by simpa using c1
 refine T_skip ?_
 try simp only [tN, bN, lN]
 refine hK7 _ _ ?_
 try clear hK7 K7
 refine T_rg ?_
 simp [↓put_at, ↓AF.ev_tmp, ↓ex_cons, ↓ex_nil, ↓ex_move, ↓ex_load, ↓ex_buildSlice, ↓ex_append, ↓ex_assign, aload, abuildSlice, frame0, g0, g1, g8, g9, g0, g1, g8, g9, g6, b6, part_job, frz_Job]
 refine appendK.of (aappend_outT (lo := H.next) (rows := acc.map (DJob.row H.color)) (ys := [(DJob.row H.color) (rdJob bs s1).1]) ?_ ?_ rfl rfl Tryz.sz55 Tryz.zero55 Tryz.by55 rfl rfl (by decide) ?_ (by intro r hr p hp; rw [List.mem_singleton] at hr; subst hr; exact frozen_rowJob _ _ p hp) ?_ ?_)
 exact hout.keep (by simp) (fun j _ hj => by simp [Nat.ne_of_lt hj])
 have := hg.ext.next; simp at this ⊢; omega
 simp [srcOf]
 simp; omega
 intro p2 H3 hout2 hab hel
 have hext3 : (H.setBox id [rrow bs c (rdJob bs s1).2]).Ext H3 := hab _ (by simp) (.bump (.setBox (by have := hg.ext.next; simp at this ⊢; omega) hg.ext))
 have hg3 : Rdg H H3 id bs c (rdJob bs s1).2 := ⟨⟨by rw [hext3.box id (by simpa using hid)]; simp, hg.ok.le, hg.ok.small⟩, hext3⟩
 simp [↓put_at, ↓AF.ev_tmp, ↓ex_cons, ↓ex_nil, ↓ex_move, ↓ex_load, ↓ex_buildSlice, ↓ex_append, ↓ex_assign, aload, abuildSlice, frame0, g0, g1, g8, g9, g0, g1, g8, g9, g6, b6, part_job, frz_Job]
 refine hK6 _ _ ?_
 try clear hK6 K6
 refine T_rg ?_
 simp [↓put_at, ↓AF.ev_tmp, ↓ex_cons, ↓ex_nil, ↓ex_binOp, ↓AF.ev_int, ↓ex_move, aBin, aBinV, frame0, g0, g1, g8, g9, g0, g1, g8, g9, g6]
 refine ⟨(rdMany bs s).1 - (i + 1), by omega, i + 1, rfl, by omega, by rw [wrap_i64 (by omega) (by omega)]; rfl, acc ++ [(rdJob bs s1).1], (rdJob bs s1).2, hg3, by simpa using hout2, by simp [hal], ?_⟩
 rw [hgo, show (rdMany bs s).1 - i = ((rdMany bs s).1 - (i + 1)) + 1 by omega, rdGo, if_pos he]
 have hge : i = (rdMany bs s).1 := by simp at c0; omega
 subst hge
 refine T_exit ?_
 try simp only [tE, bE, lE, if_true, Nat.reduceEqDiff, if_false, reduceIte, tN, bN, lN]
 refine hK2 _ _ ?_
 try clear hK2 K2
 refine T_sr fun K10 hK10 => ?_
 simp [↓put_at, ↓AF.ev_tmp, ↓ex_cons, ↓ex_nil, ↓ex_move, ↓ex_assign, frame0, g0, g1, g8, g9]
 refine hK10 _ _ ?_
 try clear hK10 K10
 refine T_ret ?_
 try simp only [tR, bR, lR]
 have e : rdList bs rdJob s = (acc, s1) := by
     unfold rdList; rw [hgo, Nat.sub_self]; rfl
 rw [e]
 refine owes_out_at (H1 := H.setBox id [rrow bs c (acc, s1).2]) (lo := H.next) (rows := acc.map (DJob.row H.color)) (.inr rfl) (hr.wf hwf _) (by simp) rfl (hout) (by simp) hg.ext ?_
 intro r hr p hp
 obtain ⟨x, _, rfl⟩ := List.mem_map.1 hr
 exact below_rowJob _ _ x p hp
end Go.Abs
namespace Go.Abs
open Go.Proofs
set_option autoImplicit false
set_option linter.all false
def letterB (n : Int) : Bool := if 97 ≤ n then (if n ≤ 122 then true else if 65 ≤ n then (if n ≤ 90 then true else false) else false) else if 65 ≤ n then (if n ≤ 90 then true else false) else false
set_option maxRecDepth 100000 in
theorem letterIs (H : AS) (n : Int) : ACalls Tryz.prog 77 [.val (.int .u8 n)] H fun q H' => q = pb (letterB n) ∧ H' = H := by
 refine ACalls_intro Tryz.func77 rfl (by kernel_rfl) (by simp) fun hwf hbel => ?_
 refine T_sr fun K0 hK0 => ?_
 simp [↓put_at, ↓AF.ev_tmp, ↓ex_cons, ↓ex_nil, ↓ex_assign, ↓AF.ev_bool, frame0, int_beq, int_bne]
 refine hK0 _ _ ?_
 try clear hK0 K0
 refine T_seqk fun K1 hK1 => ?_
 by_cases h0 : 97 ≤ n
 by_cases h1 : n ≤ 122
 refine T_rg ?_
 simp [↓put_at, ↓AF.ev_tmp, ↓ex_cons, ↓ex_nil, ↓ex_move, ↓ex_binOp, ↓AF.ev_int, ↓ex_guard, ↓ex_pick, ↓AF.ev_bool, ↓ex_assign, aBin, aBinV, frame0, int_beq, int_bne, h0, h1]
 refine hK1 _ _ ?_
 try clear hK1 K1
 refine T_ret ?_
 try simp only [tR, bR, lR]
 exact owes_one (.inr rfl) hwf rfl (by rw [show letterB n = true from by simp only [letterB, if_pos h0, if_pos h1]] <;> simp [h0, h1]) (.refl _) (by simp) (by simp)
 by_cases h2 : 65 ≤ n
 refine T_rg ?_
 simp [↓put_at, ↓AF.ev_tmp, ↓ex_cons, ↓ex_nil, ↓ex_move, ↓ex_binOp, ↓AF.ev_int, ↓ex_guard, ↓ex_pick, ↓AF.ev_bool, ↓ex_assign, aBin, aBinV, frame0, int_beq, int_bne, h0, h1, h2]
 refine hK1 _ _ ?_
 try clear hK1 K1
 refine T_ret ?_
 try simp only [tR, bR, lR]
 by_cases h3 : n ≤ 90
 exact owes_one (.inr rfl) hwf rfl (by rw [show letterB n = true from by simp only [letterB, if_pos h0, if_neg h1, if_pos h2, if_pos h3]] <;> simp [h0, h1, h2, h3]) (.refl _) (by simp) (by simp)
 exact owes_one (.inr rfl) hwf rfl (by rw [show letterB n = false from by simp only [letterB, if_pos h0, if_neg h1, if_pos h2, if_neg h3]] <;> simp [h0, h1, h2, h3]) (.refl _) (by simp) (by simp)
 refine T_rg ?_
 simp [↓put_at, ↓AF.ev_tmp, ↓ex_cons, ↓ex_nil, ↓ex_move, ↓ex_binOp, ↓AF.ev_int, ↓ex_guard, ↓ex_pick, ↓AF.ev_bool, ↓ex_assign, aBin, aBinV, frame0, int_beq, int_bne, h0, h1, h2]
 refine hK1 _ _ ?_
 try clear hK1 K1
 refine T_ret ?_
 try simp only [tR, bR, lR]
 exact owes_one (.inr rfl) hwf rfl (by rw [show letterB n = false from by simp only [letterB, if_pos h0, if_neg h1, if_neg h2]] <;> simp [h0, h1, h2]) (.refl _) (by simp) (by simp)
 by_cases h4 : 65 ≤ n
 refine T_rg ?_
 simp [↓put_at, ↓AF.ev_tmp, ↓ex_cons, ↓ex_nil, ↓ex_move, ↓ex_binOp, ↓AF.ev_int, ↓ex_guard, ↓ex_pick, ↓AF.ev_bool, ↓ex_assign, aBin, aBinV, frame0, int_beq, int_bne, h0, h4]
 refine hK1 _ _ ?_
 try clear hK1 K1
 refine T_ret ?_
 try simp only [tR, bR, lR]
 by_cases h5 : n ≤ 90
 exact owes_one (.inr rfl) hwf rfl (by rw [show letterB n = true from by simp only [letterB, if_neg h0, if_pos h4, if_pos h5]] <;> simp [h0, h4, h5]) (.refl _) (by simp) (by simp)
 exact owes_one (.inr rfl) hwf rfl (by rw [show letterB n = false from by simp only [letterB, if_neg h0, if_pos h4, if_neg h5]] <;> simp [h0, h4, h5]) (.refl _) (by simp) (by simp)
 refine T_rg ?_
 simp [↓put_at, ↓AF.ev_tmp, ↓ex_cons, ↓ex_nil, ↓ex_move, ↓ex_binOp, ↓AF.ev_int, ↓ex_guard, ↓ex_pick, ↓AF.ev_bool, ↓ex_assign, aBin, aBinV, frame0, int_beq, int_bne, h0, h4]
 refine hK1 _ _ ?_
 try clear hK1 K1
 refine T_ret ?_
 try simp only [tR, bR, lR]
 exact owes_one (.inr rfl) hwf rfl (by rw [show letterB n = false from by simp only [letterB, if_neg h0, if_neg h4]] <;> simp [h0, h4]) (.refl _) (by simp) (by simp)
def digitB (n : Int) : Bool := if 48 ≤ n then (if n ≤ 57 then true else false) else false
set_option maxRecDepth 100000 in
theorem digitIs (H : AS) (n : Int) : ACalls Tryz.prog 99 [.val (.int .u8 n)] H fun q H' => q = pb (digitB n) ∧ H' = H := by
 refine ACalls_intro Tryz.func99 rfl (by kernel_rfl) (by simp) fun hwf hbel => ?_
 refine T_sr fun K0 hK0 => ?_
 simp [↓put_at, ↓AF.ev_tmp, ↓ex_cons, ↓ex_nil, ↓ex_assign, ↓AF.ev_bool, frame0, int_beq, int_bne]
 refine hK0 _ _ ?_
 try clear hK0 K0
 refine T_seqk fun K1 hK1 => ?_
 by_cases h0 : 48 ≤ n
 refine T_rg ?_
 simp [↓put_at, ↓AF.ev_tmp, ↓ex_cons, ↓ex_nil, ↓ex_move, ↓ex_binOp, ↓AF.ev_int, ↓ex_guard, ↓ex_pick, ↓AF.ev_bool, ↓ex_assign, aBin, aBinV, frame0, int_beq, int_bne, h0]
 refine hK1 _ _ ?_
 try clear hK1 K1
 refine T_ret ?_
 try simp only [tR, bR, lR]
 by_cases h1 : n ≤ 57
 exact owes_one (.inr rfl) hwf rfl (by rw [show digitB n = true from by simp only [digitB, if_pos h0, if_pos h1]] <;> simp [h0, h1]) (.refl _) (by simp) (by simp)
 exact owes_one (.inr rfl) hwf rfl (by rw [show digitB n = false from by simp only [digitB, if_pos h0, if_neg h1]] <;> simp [h0, h1]) (.refl _) (by simp) (by simp)
 refine T_rg ?_
 simp [↓put_at, ↓AF.ev_tmp, ↓ex_cons, ↓ex_nil, ↓ex_move, ↓ex_binOp, ↓AF.ev_int, ↓ex_guard, ↓ex_pick, ↓AF.ev_bool, ↓ex_assign, aBin, aBinV, frame0, int_beq, int_bne, h0]
 refine hK1 _ _ ?_
 try clear hK1 K1
 refine T_ret ?_
 try simp only [tR, bR, lR]
 exact owes_one (.inr rfl) hwf rfl (by rw [show digitB n = false from by simp only [digitB, if_neg h0]] <;> simp [h0]) (.refl _) (by simp) (by simp)
def inWordB (n : Int) : Bool := if letterB n = true then true else if digitB n = true then true else if n = 95 then true else false
set_option maxRecDepth 100000 in
theorem inWordIs (H : AS) (n : Int) : ACalls Tryz.prog 78 [.val (.int .u8 n)] H fun q H' => q = pb (inWordB n) ∧ H' = H := by
 refine ACalls_intro Tryz.func78 rfl (by kernel_rfl) (by simp) fun hwf hbel => ?_
 refine T_sr fun K0 hK0 => ?_
 simp [↓put_at, ↓AF.ev_tmp, ↓ex_cons, ↓ex_nil, ↓ex_assign, ↓AF.ev_bool, frame0, int_beq, int_bne]
 refine hK0 _ _ ?_
 try clear hK0 K0
 refine T_seqk fun K1 hK1 => ?_
 by_cases h0 : letterB n = true
 refine T_rg ?_
 simp [↓put_at, ↓AF.ev_tmp, ↓ex_cons, ↓ex_nil, ↓ex_move, ↓ex_call, ↓AF.ev_func, ↓ex_guard, ↓ex_pick, ↓AF.ev_bool, ↓ex_binOp, ↓AF.ev_int, ↓ex_assign, aBin, aBinV, frame0, int_beq, int_bne, h0]
 refine callK.of (letterIs _ n) ?_
 rintro _ Hz ⟨rfl, hz⟩
 subst Hz
 simp [↓put_at, ↓AF.ev_tmp, ↓ex_cons, ↓ex_nil, ↓ex_move, ↓ex_call, ↓AF.ev_func, ↓ex_guard, ↓ex_pick, ↓AF.ev_bool, ↓ex_binOp, ↓AF.ev_int, ↓ex_assign, aBin, aBinV, frame0, int_beq, int_bne, h0]
 refine hK1 _ _ ?_
 try clear hK1 K1
 refine T_ret ?_
 try simp only [tR, bR, lR]
 exact owes_one (.inr rfl) hwf rfl (by rw [show inWordB n = true from by simp only [inWordB, if_pos h0]] <;> simp [h0]) (.refl _) (by simp) (by simp)
 by_cases h1 : digitB n = true
 refine T_rg ?_
 simp [↓put_at, ↓AF.ev_tmp, ↓ex_cons, ↓ex_nil, ↓ex_move, ↓ex_call, ↓AF.ev_func, ↓ex_guard, ↓ex_pick, ↓AF.ev_bool, ↓ex_binOp, ↓AF.ev_int, ↓ex_assign, aBin, aBinV, frame0, int_beq, int_bne, h0, h1]
 refine callK.of (letterIs _ n) ?_
 rintro _ Hz ⟨rfl, hz⟩
 subst Hz
 simp [↓put_at, ↓AF.ev_tmp, ↓ex_cons, ↓ex_nil, ↓ex_move, ↓ex_call, ↓AF.ev_func, ↓ex_guard, ↓ex_pick, ↓AF.ev_bool, ↓ex_binOp, ↓AF.ev_int, ↓ex_assign, aBin, aBinV, frame0, int_beq, int_bne, h0, h1]
 refine callK.of (digitIs _ n) ?_
 rintro _ Hz ⟨rfl, hz⟩
 subst Hz
 simp [↓put_at, ↓AF.ev_tmp, ↓ex_cons, ↓ex_nil, ↓ex_move, ↓ex_call, ↓AF.ev_func, ↓ex_guard, ↓ex_pick, ↓AF.ev_bool, ↓ex_binOp, ↓AF.ev_int, ↓ex_assign, aBin, aBinV, frame0, int_beq, int_bne, h0, h1]
 refine hK1 _ _ ?_
 try clear hK1 K1
 refine T_ret ?_
 try simp only [tR, bR, lR]
 exact owes_one (.inr rfl) hwf rfl (by rw [show inWordB n = true from by simp only [inWordB, if_neg h0, if_pos h1]] <;> simp [h0, h1]) (.refl _) (by simp) (by simp)
 refine T_rg ?_
 simp [↓put_at, ↓AF.ev_tmp, ↓ex_cons, ↓ex_nil, ↓ex_move, ↓ex_call, ↓AF.ev_func, ↓ex_guard, ↓ex_pick, ↓AF.ev_bool, ↓ex_binOp, ↓AF.ev_int, ↓ex_assign, aBin, aBinV, frame0, int_beq, int_bne, h0, h1]
 refine callK.of (letterIs _ n) ?_
 rintro _ Hz ⟨rfl, hz⟩
 subst Hz
 simp [↓put_at, ↓AF.ev_tmp, ↓ex_cons, ↓ex_nil, ↓ex_move, ↓ex_call, ↓AF.ev_func, ↓ex_guard, ↓ex_pick, ↓AF.ev_bool, ↓ex_binOp, ↓AF.ev_int, ↓ex_assign, aBin, aBinV, frame0, int_beq, int_bne, h0, h1]
 refine callK.of (digitIs _ n) ?_
 rintro _ Hz ⟨rfl, hz⟩
 subst Hz
 simp [↓put_at, ↓AF.ev_tmp, ↓ex_cons, ↓ex_nil, ↓ex_move, ↓ex_call, ↓AF.ev_func, ↓ex_guard, ↓ex_pick, ↓AF.ev_bool, ↓ex_binOp, ↓AF.ev_int, ↓ex_assign, aBin, aBinV, frame0, int_beq, int_bne, h0, h1]
 refine hK1 _ _ ?_
 try clear hK1 K1
 refine T_ret ?_
 try simp only [tR, bR, lR]
 by_cases h2 : n = 95
 exact owes_one (.inr rfl) hwf rfl (by rw [show inWordB n = true from by simp only [inWordB, if_neg h0, if_neg h1, if_pos h2]] <;> simp [h0, h1, h2]) (.refl _) (by simp) (by simp)
 exact owes_one (.inr rfl) hwf rfl (by rw [show inWordB n = false from by simp only [inWordB, if_neg h0, if_neg h1, if_neg h2]] <;> simp [h0, h1, h2]) (.refl _) (by simp) (by simp)
def integerB (n : Int) : Bool := if 2 ≤ n then (if n ≤ 9 then true else false) else false
set_option maxRecDepth 100000 in
theorem integerIs (H : AS) (n : Int) : ACalls Tryz.prog 79 [.val (.int .u8 n)] H fun q H' => q = pb (integerB n) ∧ H' = H := by
 refine ACalls_intro Tryz.func79 rfl (by kernel_rfl) (by simp) fun hwf hbel => ?_
 refine T_sr fun K0 hK0 => ?_
 simp [↓put_at, ↓AF.ev_tmp, ↓ex_cons, ↓ex_nil, ↓ex_assign, ↓AF.ev_bool, frame0, int_beq, int_bne]
 refine hK0 _ _ ?_
 try clear hK0 K0
 refine T_seqk fun K1 hK1 => ?_
 by_cases h0 : 2 ≤ n
 refine T_rg ?_
 simp [↓put_at, ↓AF.ev_tmp, ↓ex_cons, ↓ex_nil, ↓ex_move, ↓ex_binOp, ↓AF.ev_int, ↓ex_guard, ↓ex_pick, ↓AF.ev_bool, ↓ex_assign, aBin, aBinV, frame0, int_beq, int_bne, h0]
 refine hK1 _ _ ?_
 try clear hK1 K1
 refine T_ret ?_
 try simp only [tR, bR, lR]
 by_cases h1 : n ≤ 9
 exact owes_one (.inr rfl) hwf rfl (by rw [show integerB n = true from by simp only [integerB, if_pos h0, if_pos h1]] <;> simp [h0, h1]) (.refl _) (by simp) (by simp)
 exact owes_one (.inr rfl) hwf rfl (by rw [show integerB n = false from by simp only [integerB, if_pos h0, if_neg h1]] <;> simp [h0, h1]) (.refl _) (by simp) (by simp)
 refine T_rg ?_
 simp [↓put_at, ↓AF.ev_tmp, ↓ex_cons, ↓ex_nil, ↓ex_move, ↓ex_binOp, ↓AF.ev_int, ↓ex_guard, ↓ex_pick, ↓AF.ev_bool, ↓ex_assign, aBin, aBinV, frame0, int_beq, int_bne, h0]
 refine hK1 _ _ ?_
 try clear hK1 K1
 refine T_ret ?_
 try simp only [tR, bR, lR]
 exact owes_one (.inr rfl) hwf rfl (by rw [show integerB n = false from by simp only [integerB, if_neg h0]] <;> simp [h0]) (.refl _) (by simp) (by simp)
def knownB (n : Int) : Bool := if 1 ≤ n then (if n ≤ 19 then true else false) else false
set_option maxRecDepth 100000 in
theorem knownIs (H : AS) (n : Int) : ACalls Tryz.prog 120 [.val (.int .u8 n)] H fun q H' => q = pb (knownB n) ∧ H' = H := by
 refine ACalls_intro Tryz.func120 rfl (by kernel_rfl) (by simp) fun hwf hbel => ?_
 refine T_sr fun K0 hK0 => ?_
 simp [↓put_at, ↓AF.ev_tmp, ↓ex_cons, ↓ex_nil, ↓ex_assign, ↓AF.ev_bool, frame0, int_beq, int_bne]
 refine hK0 _ _ ?_
 try clear hK0 K0
 refine T_seqk fun K1 hK1 => ?_
 by_cases h0 : 1 ≤ n
 refine T_rg ?_
 simp [↓put_at, ↓AF.ev_tmp, ↓ex_cons, ↓ex_nil, ↓ex_move, ↓ex_binOp, ↓AF.ev_int, ↓ex_guard, ↓ex_pick, ↓AF.ev_bool, ↓ex_assign, aBin, aBinV, frame0, int_beq, int_bne, h0]
 refine hK1 _ _ ?_
 try clear hK1 K1
 refine T_ret ?_
 try simp only [tR, bR, lR]
 by_cases h1 : n ≤ 19
 exact owes_one (.inr rfl) hwf rfl (by rw [show knownB n = true from by simp only [knownB, if_pos h0, if_pos h1]] <;> simp [h0, h1]) (.refl _) (by simp) (by simp)
 exact owes_one (.inr rfl) hwf rfl (by rw [show knownB n = false from by simp only [knownB, if_pos h0, if_neg h1]] <;> simp [h0, h1]) (.refl _) (by simp) (by simp)
 refine T_rg ?_
 simp [↓put_at, ↓AF.ev_tmp, ↓ex_cons, ↓ex_nil, ↓ex_move, ↓ex_binOp, ↓AF.ev_int, ↓ex_guard, ↓ex_pick, ↓AF.ev_bool, ↓ex_assign, aBin, aBinV, frame0, int_beq, int_bne, h0]
 refine hK1 _ _ ?_
 try clear hK1 K1
 refine T_ret ?_
 try simp only [tR, bR, lR]
 exact owes_one (.inr rfl) hwf rfl (by rw [show knownB n = false from by simp only [knownB, if_neg h0]] <;> simp [h0]) (.refl _) (by simp) (by simp)
def signedB (n : Int) : Bool := if 2 ≤ n then (if n ≤ 5 then true else false) else false
set_option maxRecDepth 100000 in
theorem signedIs (H : AS) (n : Int) : ACalls Tryz.prog 122 [.val (.int .u8 n)] H fun q H' => q = pb (signedB n) ∧ H' = H := by
 refine ACalls_intro Tryz.func122 rfl (by kernel_rfl) (by simp) fun hwf hbel => ?_
 refine T_sr fun K0 hK0 => ?_
 simp [↓put_at, ↓AF.ev_tmp, ↓ex_cons, ↓ex_nil, ↓ex_assign, ↓AF.ev_bool, frame0, int_beq, int_bne]
 refine hK0 _ _ ?_
 try clear hK0 K0
 refine T_seqk fun K1 hK1 => ?_
 by_cases h0 : 2 ≤ n
 refine T_rg ?_
 simp [↓put_at, ↓AF.ev_tmp, ↓ex_cons, ↓ex_nil, ↓ex_move, ↓ex_binOp, ↓AF.ev_int, ↓ex_guard, ↓ex_pick, ↓AF.ev_bool, ↓ex_assign, aBin, aBinV, frame0, int_beq, int_bne, h0]
 refine hK1 _ _ ?_
 try clear hK1 K1
 refine T_ret ?_
 try simp only [tR, bR, lR]
 by_cases h1 : n ≤ 5
 exact owes_one (.inr rfl) hwf rfl (by rw [show signedB n = true from by simp only [signedB, if_pos h0, if_pos h1]] <;> simp [h0, h1]) (.refl _) (by simp) (by simp)
 exact owes_one (.inr rfl) hwf rfl (by rw [show signedB n = false from by simp only [signedB, if_pos h0, if_neg h1]] <;> simp [h0, h1]) (.refl _) (by simp) (by simp)
 refine T_rg ?_
 simp [↓put_at, ↓AF.ev_tmp, ↓ex_cons, ↓ex_nil, ↓ex_move, ↓ex_binOp, ↓AF.ev_int, ↓ex_guard, ↓ex_pick, ↓AF.ev_bool, ↓ex_assign, aBin, aBinV, frame0, int_beq, int_bne, h0]
 refine hK1 _ _ ?_
 try clear hK1 K1
 refine T_ret ?_
 try simp only [tR, bR, lR]
 exact owes_one (.inr rfl) hwf rfl (by rw [show signedB n = false from by simp only [signedB, if_neg h0]] <;> simp [h0]) (.refl _) (by simp) (by simp)
def unsignedB (n : Int) : Bool := if 6 ≤ n then (if n ≤ 9 then true else false) else false
set_option maxRecDepth 100000 in
theorem unsignedIs (H : AS) (n : Int) : ACalls Tryz.prog 123 [.val (.int .u8 n)] H fun q H' => q = pb (unsignedB n) ∧ H' = H := by
 refine ACalls_intro Tryz.func123 rfl (by kernel_rfl) (by simp) fun hwf hbel => ?_
 refine T_sr fun K0 hK0 => ?_
 simp [↓put_at, ↓AF.ev_tmp, ↓ex_cons, ↓ex_nil, ↓ex_assign, ↓AF.ev_bool, frame0, int_beq, int_bne]
 refine hK0 _ _ ?_
 try clear hK0 K0
 refine T_seqk fun K1 hK1 => ?_
 by_cases h0 : 6 ≤ n
 refine T_rg ?_
 simp [↓put_at, ↓AF.ev_tmp, ↓ex_cons, ↓ex_nil, ↓ex_move, ↓ex_binOp, ↓AF.ev_int, ↓ex_guard, ↓ex_pick, ↓AF.ev_bool, ↓ex_assign, aBin, aBinV, frame0, int_beq, int_bne, h0]
 refine hK1 _ _ ?_
 try clear hK1 K1
 refine T_ret ?_
 try simp only [tR, bR, lR]
 by_cases h1 : n ≤ 9
 exact owes_one (.inr rfl) hwf rfl (by rw [show unsignedB n = true from by simp only [unsignedB, if_pos h0, if_pos h1]] <;> simp [h0, h1]) (.refl _) (by simp) (by simp)
 exact owes_one (.inr rfl) hwf rfl (by rw [show unsignedB n = false from by simp only [unsignedB, if_pos h0, if_neg h1]] <;> simp [h0, h1]) (.refl _) (by simp) (by simp)
 refine T_rg ?_
 simp [↓put_at, ↓AF.ev_tmp, ↓ex_cons, ↓ex_nil, ↓ex_move, ↓ex_binOp, ↓AF.ev_int, ↓ex_guard, ↓ex_pick, ↓AF.ev_bool, ↓ex_assign, aBin, aBinV, frame0, int_beq, int_bne, h0]
 refine hK1 _ _ ?_
 try clear hK1 K1
 refine T_ret ?_
 try simp only [tR, bR, lR]
 exact owes_one (.inr rfl) hwf rfl (by rw [show unsignedB n = false from by simp only [unsignedB, if_neg h0]] <;> simp [h0]) (.refl _) (by simp) (by simp)
def rowB (n : Int) : Bool := if 10 ≤ n then (if n ≤ 13 then true else false) else false
set_option maxRecDepth 100000 in
theorem rowIs (H : AS) (n : Int) : ACalls Tryz.prog 124 [.val (.int .u8 n)] H fun q H' => q = pb (rowB n) ∧ H' = H := by
 refine ACalls_intro Tryz.func124 rfl (by kernel_rfl) (by simp) fun hwf hbel => ?_
 refine T_sr fun K0 hK0 => ?_
 simp [↓put_at, ↓AF.ev_tmp, ↓ex_cons, ↓ex_nil, ↓ex_assign, ↓AF.ev_bool, frame0, int_beq, int_bne]
 refine hK0 _ _ ?_
 try clear hK0 K0
 refine T_seqk fun K1 hK1 => ?_
 by_cases h0 : 10 ≤ n
 refine T_rg ?_
 simp [↓put_at, ↓AF.ev_tmp, ↓ex_cons, ↓ex_nil, ↓ex_move, ↓ex_binOp, ↓AF.ev_int, ↓ex_guard, ↓ex_pick, ↓AF.ev_bool, ↓ex_assign, aBin, aBinV, frame0, int_beq, int_bne, h0]
 refine hK1 _ _ ?_
 try clear hK1 K1
 refine T_ret ?_
 try simp only [tR, bR, lR]
 by_cases h1 : n ≤ 13
 exact owes_one (.inr rfl) hwf rfl (by rw [show rowB n = true from by simp only [rowB, if_pos h0, if_pos h1]] <;> simp [h0, h1]) (.refl _) (by simp) (by simp)
 exact owes_one (.inr rfl) hwf rfl (by rw [show rowB n = false from by simp only [rowB, if_pos h0, if_neg h1]] <;> simp [h0, h1]) (.refl _) (by simp) (by simp)
 refine T_rg ?_
 simp [↓put_at, ↓AF.ev_tmp, ↓ex_cons, ↓ex_nil, ↓ex_move, ↓ex_binOp, ↓AF.ev_int, ↓ex_guard, ↓ex_pick, ↓AF.ev_bool, ↓ex_assign, aBin, aBinV, frame0, int_beq, int_bne, h0]
 refine hK1 _ _ ?_
 try clear hK1 K1
 refine T_ret ?_
 try simp only [tR, bR, lR]
 exact owes_one (.inr rfl) hwf rfl (by rw [show rowB n = false from by simp only [rowB, if_neg h0]] <;> simp [h0]) (.refl _) (by simp) (by simp)
def wholeB (n : Int) : Bool := if signedB n = true then true else if unsignedB n = true then true else false
set_option maxRecDepth 100000 in
theorem wholeIs (H : AS) (n : Int) : ACalls Tryz.prog 101 [.val (.int .u8 n)] H fun q H' => q = pb (wholeB n) ∧ H' = H := by
 refine ACalls_intro Tryz.func101 rfl (by kernel_rfl) (by simp) fun hwf hbel => ?_
 refine T_sr fun K0 hK0 => ?_
 simp [↓put_at, ↓AF.ev_tmp, ↓ex_cons, ↓ex_nil, ↓ex_assign, ↓AF.ev_bool, frame0, int_beq, int_bne]
 refine hK0 _ _ ?_
 try clear hK0 K0
 refine T_seqk fun K1 hK1 => ?_
 by_cases h0 : signedB n = true
 refine T_rg ?_
 simp [↓put_at, ↓AF.ev_tmp, ↓ex_cons, ↓ex_nil, ↓ex_move, ↓ex_call, ↓AF.ev_func, ↓ex_guard, ↓ex_pick, ↓AF.ev_bool, ↓ex_assign, frame0, int_beq, int_bne, h0]
 refine callK.of (signedIs _ n) ?_
 rintro _ Hz ⟨rfl, hz⟩
 subst Hz
 simp [↓put_at, ↓AF.ev_tmp, ↓ex_cons, ↓ex_nil, ↓ex_move, ↓ex_call, ↓AF.ev_func, ↓ex_guard, ↓ex_pick, ↓AF.ev_bool, ↓ex_assign, frame0, int_beq, int_bne, h0]
 refine hK1 _ _ ?_
 try clear hK1 K1
 refine T_ret ?_
 try simp only [tR, bR, lR]
 exact owes_one (.inr rfl) hwf rfl (by rw [show wholeB n = true from by simp only [wholeB, if_pos h0]] <;> simp [h0]) (.refl _) (by simp) (by simp)
 refine T_rg ?_
 simp [↓put_at, ↓AF.ev_tmp, ↓ex_cons, ↓ex_nil, ↓ex_move, ↓ex_call, ↓AF.ev_func, ↓ex_guard, ↓ex_pick, ↓AF.ev_bool, ↓ex_assign, frame0, int_beq, int_bne, h0]
 refine callK.of (signedIs _ n) ?_
 rintro _ Hz ⟨rfl, hz⟩
 subst Hz
 simp [↓put_at, ↓AF.ev_tmp, ↓ex_cons, ↓ex_nil, ↓ex_move, ↓ex_call, ↓AF.ev_func, ↓ex_guard, ↓ex_pick, ↓AF.ev_bool, ↓ex_assign, frame0, int_beq, int_bne, h0]
 refine callK.of (unsignedIs _ n) ?_
 rintro _ Hz ⟨rfl, hz⟩
 subst Hz
 simp [↓put_at, ↓AF.ev_tmp, ↓ex_cons, ↓ex_nil, ↓ex_move, ↓ex_call, ↓AF.ev_func, ↓ex_guard, ↓ex_pick, ↓AF.ev_bool, ↓ex_assign, frame0, int_beq, int_bne, h0]
 refine hK1 _ _ ?_
 try clear hK1 K1
 refine T_ret ?_
 try simp only [tR, bR, lR]
 by_cases h1 : unsignedB n = true
 exact owes_one (.inr rfl) hwf rfl (by rw [show wholeB n = true from by simp only [wholeB, if_neg h0, if_pos h1]] <;> simp [h0, h1]) (.refl _) (by simp) (by simp)
 exact owes_one (.inr rfl) hwf rfl (by rw [show wholeB n = false from by simp only [wholeB, if_neg h0, if_neg h1]] <;> simp [h0, h1]) (.refl _) (by simp) (by simp)
def numberB (n : Int) (m : Int) : Bool := if 0 ≤ n then (if n ≤ m then true else false) else false
set_option maxRecDepth 100000 in
theorem numberIs (H : AS) (n : Int) (m : Int) : ACalls Tryz.prog 86 [pi n, pi m] H fun q H' => q = pb (numberB n m) ∧ H' = H := by
 refine ACalls_intro Tryz.func86 rfl (by kernel_rfl) (by simp) fun hwf hbel => ?_
 refine T_sr fun K0 hK0 => ?_
 simp [↓put_at, ↓AF.ev_tmp, ↓ex_cons, ↓ex_nil, ↓ex_assign, ↓AF.ev_bool, frame0, int_beq, int_bne]
 refine hK0 _ _ ?_
 try clear hK0 K0
 refine T_seqk fun K1 hK1 => ?_
 by_cases h0 : 0 ≤ n
 refine T_rg ?_
 simp [↓put_at, ↓AF.ev_tmp, ↓ex_cons, ↓ex_nil, ↓ex_move, ↓ex_binOp, ↓AF.ev_int, ↓ex_guard, ↓ex_pick, ↓AF.ev_bool, ↓ex_assign, aBin, aBinV, frame0, int_beq, int_bne, h0]
 refine hK1 _ _ ?_
 try clear hK1 K1
 refine T_ret ?_
 try simp only [tR, bR, lR]
 by_cases h1 : n ≤ m
 exact owes_one (.inr rfl) hwf rfl (by rw [show numberB n m = true from by simp only [numberB, if_pos h0, if_pos h1]] <;> simp [h0, h1]) (.refl _) (by simp) (by simp)
 exact owes_one (.inr rfl) hwf rfl (by rw [show numberB n m = false from by simp only [numberB, if_pos h0, if_neg h1]] <;> simp [h0, h1]) (.refl _) (by simp) (by simp)
 refine T_rg ?_
 simp [↓put_at, ↓AF.ev_tmp, ↓ex_cons, ↓ex_nil, ↓ex_move, ↓ex_binOp, ↓AF.ev_int, ↓ex_guard, ↓ex_pick, ↓AF.ev_bool, ↓ex_assign, aBin, aBinV, frame0, int_beq, int_bne, h0]
 refine hK1 _ _ ?_
 try clear hK1 K1
 refine T_ret ?_
 try simp only [tR, bR, lR]
 exact owes_one (.inr rfl) hwf rfl (by rw [show numberB n m = false from by simp only [numberB, if_neg h0]] <;> simp [h0]) (.refl _) (by simp) (by simp)
def areaB (n : Int) : Bool := if 1 ≤ n then (if n ≤ 3 then true else false) else false
set_option maxRecDepth 100000 in
theorem areaIs (H : AS) (n : Int) : ACalls Tryz.prog 107 [pi n] H fun q H' => q = pb (areaB n) ∧ H' = H := by
 refine ACalls_intro Tryz.func107 rfl (by kernel_rfl) (by simp) fun hwf hbel => ?_
 refine T_sr fun K0 hK0 => ?_
 simp [↓put_at, ↓AF.ev_tmp, ↓ex_cons, ↓ex_nil, ↓ex_assign, ↓AF.ev_bool, frame0, int_beq, int_bne]
 refine hK0 _ _ ?_
 try clear hK0 K0
 refine T_seqk fun K1 hK1 => ?_
 by_cases h0 : 1 ≤ n
 refine T_rg ?_
 simp [↓put_at, ↓AF.ev_tmp, ↓ex_cons, ↓ex_nil, ↓ex_move, ↓ex_binOp, ↓AF.ev_int, ↓ex_guard, ↓ex_pick, ↓AF.ev_bool, ↓ex_assign, aBin, aBinV, frame0, int_beq, int_bne, h0]
 refine hK1 _ _ ?_
 try clear hK1 K1
 refine T_ret ?_
 try simp only [tR, bR, lR]
 by_cases h1 : n ≤ 3
 exact owes_one (.inr rfl) hwf rfl (by rw [show areaB n = true from by simp only [areaB, if_pos h0, if_pos h1]] <;> simp [h0, h1]) (.refl _) (by simp) (by simp)
 exact owes_one (.inr rfl) hwf rfl (by rw [show areaB n = false from by simp only [areaB, if_pos h0, if_neg h1]] <;> simp [h0, h1]) (.refl _) (by simp) (by simp)
 refine T_rg ?_
 simp [↓put_at, ↓AF.ev_tmp, ↓ex_cons, ↓ex_nil, ↓ex_move, ↓ex_binOp, ↓AF.ev_int, ↓ex_guard, ↓ex_pick, ↓AF.ev_bool, ↓ex_assign, aBin, aBinV, frame0, int_beq, int_bne, h0]
 refine hK1 _ _ ?_
 try clear hK1 K1
 refine T_ret ?_
 try simp only [tR, bR, lR]
 exact owes_one (.inr rfl) hwf rfl (by rw [show areaB n = false from by simp only [areaB, if_neg h0]] <;> simp [h0]) (.refl _) (by simp) (by simp)
end Go.Abs
namespace Go.Abs
open Go.Proofs
set_option autoImplicit false
set_option linter.all false
@[ext] structure DType where
  kind : Int
  sub : Bool
  lo : Int
  hi : Int
  max : Int
  array : Bool
  fr : Int
  to : Int
  block : ByteArray
@[ext] structure DLook where
  f : DFlat
  codes : Int
@[ext] structure DNeed where
  a : Bool
  b : Bool
  c : Bool
  d : Bool
  bounds : Bool
  value : Bool
def DType.row (x : DType) : List PV := [.val (.int .u8 x.kind), pb x.sub, pi x.lo, pi x.hi, pi x.max, pb x.array, pi x.fr, pi x.to, ps x.block]
def DLook.row (c : Nat) (x : DLook) : List PV := [ps x.f.name, pi x.f.what, pi x.f.cells, pi x.f.base, pi x.f.regs, pi x.f.slots, PV.sl c 10 (x.f.ops.map DOp.row), PV.sl c 3 (x.f.loops.map DLoop.row), pi x.codes]
def DNeed.row (x : DNeed) : List PV := [pb x.a, pb x.b, pb x.c, pb x.d, pb x.bounds, pb x.value]
def eqv (k b : Int) (t : ByteArray) (k' b' : Int) (t' : ByteArray) : Bool := decide (k = k') && decide (b = b') && decide (t = t')
set_option maxRecDepth 100000 in
theorem eq42' (k b k' b' : Int) (t t' : ByteArray) (d : Nat) : aEqIn Tryz.prog (d + 2) 42 (.agg [.val (.int .u8 k), .val (.int .u64 b), .val (.string t)]) (.agg [.val (.int .u8 k'), .val (.int .u64 b'), .val (.string t')]) = some (eqv k b t k' b' t') := by
 simp [aEqIn, Program.fieldsOf, aEqIn.go, partOf, aEqCell, beq_bytes, eqv, int_beq, Bool.and_assoc]
theorem eq42 (k b k' b' : Int) (t t' : ByteArray) : aEqIn Tryz.prog Op.maxDepth 42 (.agg [.val (.int .u8 k), .val (.int .u64 b), .val (.string t)]) (.agg [.val (.int .u8 k'), .val (.int .u64 b'), .val (.string t')]) = some (eqv k b t k' b' t') := eq42' k b k' b' t t' 9998
@[simp] theorem gd42 : Tryz.prog.eqGuardType Tryz.prog.depth 42 = false := by kernel_rfl
theorem nx2 (n : Nat) : (n = n + 1 + 1) = False := by simp; omega
theorem nx2' (n : Nat) : (n + 1 + 1 = n) = False := by simp; omega
theorem nx3 (n : Nat) : (n ≤ n + 1 + 1) = True := by simp; omega
theorem bump_setBox (H : AS) (m id : Nat) (r : List (List PV)) : (H.bump m).setBox id r = (H.setBox id r).bump m := rfl
theorem owes_two {P : Program} {H : AS} {fn : Func} {x y : Value} {q : PV} {F' : AF} {H' : AS} {e : Exit} (he : e = .normal ∨ e = .ret) (hwf : WF H) (hr : aResults P F' H' fn.results.toList = some [.val x, .val y]) (hq : .tuple [.val x, .val y] = q)
    (hext : H.Ext H') (h1 : Frozen (.val x)) (h2 : Frozen (.val y)) : Owes P fn H (fun r H'' => r = q ∧ H'' = H) e F' H' := by
 subst hq
 refine owes_pure he hwf hr ?_ ?_ ?_ <;> simp [frzVs, frzV_one (p := .val x) ⟨by simp, h1⟩, frzV_one (p := .val y) ⟨by simp, h2⟩, packed]
 exact hext
theorem wrap_nn (x : Int) : 0 ≤ IntKind.u64.wrap x := by
 have : IntKind.u64.wrap x = x % 18446744073709551616 := rfl
 omega
def nanB (x : Nat) : Bool := FloatKind.f64.format.order x x != some .eq
theorem isNaN_plain (x : Nat) (w : World) : Calls Tryz.prog 118 #[.float .f64 x] w fun e w' => e = .returned (.bool (nanB x)) ∧ w' = w := by
 go_enter Tryz.func118, Tryz.ntmps118
 go_wp2
 rw [show (Sem.run Tryz.prog (binOp .neq 161 (.float .f64 x) (.float .f64 x)) w) = .ok (.bool (nanB x)) w from rfl]
 go_wp2
 go_ret
 exact ⟨rfl, rfl⟩
theorem isNaNIs (H : AS) (x : Nat) : ACalls Tryz.prog 118 [.val (.float .f64 x)] H fun q H' => q = pb (nanB x) ∧ H' = H :=
  ACalls.of_plain (vs := [.float .f64 x]) Tryz.func118 (by kernel_rfl) (by kernel_rfl) fun w => isNaN_plain x w
theorem frombitsIs (H : AS) (n : Int) : ACalls Tryz.prog 119 [.val (.int .u64 n)] H fun q H' => q = .val (.float .f64 n.toNat) ∧ H' = H := by
 have h : XCalls Tryz.prog 119 [.val (.int .u64 n)] H fun q H' => q = .val (.float .f64 n.toNat) ∧ H' = H := by
   refine ⟨_, Extern.MathFloatBits.float64frombits, Tryz.func119, by kernel_rfl, by kernel_rfl, by kernel_rfl, by kernel_rfl, fun G w vs hr hall => ?_⟩
   match vs, hall with
   | [v], h =>
     cases rep_val h.1
     exact ⟨_, w, G, _, H, rfl, .refl G, hr, .val _, rfl, rfl⟩
 exact Or.inr h
attribute [local simp ↓] put_at AF.ev_tmp ex_cons ex_nil ex_box ex_assign AF.ev_bool ex_move ex_binOp AF.ev_int ex_guard ex_fieldAddr ex_load ex_pick ex_len ex_convert ex_call AF.ev_func ex_unOp AF.ev_string
attribute [local simp] abox frame0 nx2 nx3 nx2' bump_setBox setBox_setBox beq_bytes wrap_nn int_beq int_bne DVal.row DOp.row DLook.row DFlat.row DType.row DNeed.row DCell.row eq42 aBin aBinV aFieldAddr aload partOf aLen aConvert aUn AS.Ext.refl AS.Ext.bump AS.Ext.setBox AS.Ext.kill AS.Ext.setMap
def regB (k : DLook) (n : Int) : Bool := if 0 ≤ n then (if n < k.f.regs then true else false) else false
set_option maxRecDepth 100000 in
set_option maxHeartbeats 4000000 in
theorem regIs (H : AS)  (c : Nat) (k : DLook) (n : Int) : ACalls Tryz.prog 106 [.agg (k.row c), pi n] H fun q H' => q = pb (regB k n) ∧ H' = H := by
 refine ACalls_intro Tryz.func106 rfl (by kernel_rfl) (by simp) fun hwf hbel => ?_
 refine T_sr fun K0 hK0 => ?_
 simp
 refine hK0 _ _ ?_
 try clear hK0 K0
 refine T_seqk fun K1 hK1 => ?_
 by_cases h0 : 0 ≤ n
 refine T_rg ?_
 simp [h0]
 refine hK1 _ _ ?_
 try clear hK1 K1
 refine T_ret ?_
 try simp only [tR, bR, lR]
 by_cases h1 : n < k.f.regs
 exact owes_one (.inr rfl) hwf rfl (by rw [show regB k n = true from by simp only [regB, if_pos h0, if_pos h1]] <;> simp [h0, h1]) (by simp (maxDischargeDepth := 20)) (by simp) (by simp)
 exact owes_one (.inr rfl) hwf rfl (by rw [show regB k n = false from by simp only [regB, if_pos h0, if_neg h1]] <;> simp [h0, h1]) (by simp (maxDischargeDepth := 20)) (by simp) (by simp)
 refine T_rg ?_
 simp [h0]
 refine hK1 _ _ ?_
 try clear hK1 K1
 refine T_ret ?_
 try simp only [tR, bR, lR]
 exact owes_one (.inr rfl) hwf rfl (by rw [show regB k n = false from by simp only [regB, if_neg h0]] <;> simp [h0]) (by simp (maxDischargeDepth := 20)) (by simp) (by simp)
def slotB (k : DLook) (n : Int) : Bool := if 0 ≤ n then (if n < k.f.slots then true else false) else false
set_option maxRecDepth 100000 in
set_option maxHeartbeats 4000000 in
theorem slotIs (H : AS)  (c : Nat) (k : DLook) (n : Int) : ACalls Tryz.prog 130 [.agg (k.row c), pi n] H fun q H' => q = pb (slotB k n) ∧ H' = H := by
 refine ACalls_intro Tryz.func130 rfl (by kernel_rfl) (by simp) fun hwf hbel => ?_
 refine T_sr fun K0 hK0 => ?_
 simp
 refine hK0 _ _ ?_
 try clear hK0 K0
 refine T_seqk fun K1 hK1 => ?_
 by_cases h0 : 0 ≤ n
 refine T_rg ?_
 simp [h0]
 refine hK1 _ _ ?_
 try clear hK1 K1
 refine T_ret ?_
 try simp only [tR, bR, lR]
 by_cases h1 : n < k.f.slots
 exact owes_one (.inr rfl) hwf rfl (by rw [show slotB k n = true from by simp only [slotB, if_pos h0, if_pos h1]] <;> simp [h0, h1]) (by simp (maxDischargeDepth := 20)) (by simp) (by simp)
 exact owes_one (.inr rfl) hwf rfl (by rw [show slotB k n = false from by simp only [slotB, if_pos h0, if_neg h1]] <;> simp [h0, h1]) (by simp (maxDischargeDepth := 20)) (by simp) (by simp)
 refine T_rg ?_
 simp [h0]
 refine hK1 _ _ ?_
 try clear hK1 K1
 refine T_ret ?_
 try simp only [tR, bR, lR]
 exact owes_one (.inr rfl) hwf rfl (by rw [show slotB k n = false from by simp only [slotB, if_neg h0]] <;> simp [h0]) (by simp (maxDischargeDepth := 20)) (by simp) (by simp)
def placeB (k : DLook) (n : Int) : Bool := if 0 ≤ n then (if n < (k.f.ops.length : Int) then true else false) else false
set_option maxRecDepth 100000 in
set_option maxHeartbeats 4000000 in
theorem placeIs (H : AS)  (c : Nat) (k : DLook) (n : Int) : ACalls Tryz.prog 129 [.agg (k.row c), pi n] H fun q H' => q = pb (placeB k n) ∧ H' = H := by
 refine ACalls_intro Tryz.func129 rfl (by kernel_rfl) (by simp) fun hwf hbel => ?_
 refine T_sr fun K0 hK0 => ?_
 simp
 refine hK0 _ _ ?_
 try clear hK0 K0
 refine T_seqk fun K1 hK1 => ?_
 by_cases h0 : 0 ≤ n
 refine T_rg ?_
 simp [h0]
 refine hK1 _ _ ?_
 try clear hK1 K1
 refine T_ret ?_
 try simp only [tR, bR, lR]
 by_cases h1 : n < (k.f.ops.length : Int)
 exact owes_one (.inr rfl) hwf rfl (by rw [show placeB k n = true from by simp only [placeB, if_pos h0, if_pos h1]] <;> simp [h0, h1]) (by simp (maxDischargeDepth := 20)) (by simp) (by simp)
 exact owes_one (.inr rfl) hwf rfl (by rw [show placeB k n = false from by simp only [placeB, if_pos h0, if_neg h1]] <;> simp [h0, h1]) (by simp (maxDischargeDepth := 20)) (by simp) (by simp)
 refine T_rg ?_
 simp [h0]
 refine hK1 _ _ ?_
 try clear hK1 K1
 refine T_ret ?_
 try simp only [tR, bR, lR]
 exact owes_one (.inr rfl) hwf rfl (by rw [show placeB k n = false from by simp only [placeB, if_neg h0]] <;> simp [h0]) (by simp (maxDischargeDepth := 20)) (by simp) (by simp)
def nearB (n : Int) (m : Int) : Bool := if n ≤ m then (if (IntKind.wrap .u64 (IntKind.wrap .i64 (m - n))) < 256 then true else false) else false
set_option maxRecDepth 100000 in
set_option maxHeartbeats 4000000 in
theorem nearIs (H : AS) (n : Int) (m : Int) : ACalls Tryz.prog 108 [pi n, pi m] H fun q H' => q = pb (nearB n m) ∧ H' = H := by
 refine ACalls_intro Tryz.func108 rfl (by kernel_rfl) (by simp) fun hwf hbel => ?_
 refine T_sr fun K0 hK0 => ?_
 simp
 refine hK0 _ _ ?_
 try clear hK0 K0
 refine T_seqk fun K1 hK1 => ?_
 by_cases h0 : n ≤ m
 refine T_rg ?_
 simp [h0]
 refine hK1 _ _ ?_
 try clear hK1 K1
 refine T_ret ?_
 try simp only [tR, bR, lR]
 by_cases h1 : (IntKind.wrap .u64 (IntKind.wrap .i64 (m - n))) < 256
 exact owes_one (.inr rfl) hwf rfl (by rw [show nearB n m = true from by simp only [nearB, if_pos h0, if_pos h1]] <;> simp [h0, h1]) (by simp (maxDischargeDepth := 20)) (by simp) (by simp)
 exact owes_one (.inr rfl) hwf rfl (by rw [show nearB n m = false from by simp only [nearB, if_pos h0, if_neg h1]] <;> simp [h0, h1]) (by simp (maxDischargeDepth := 20)) (by simp) (by simp)
 refine T_rg ?_
 simp [h0]
 refine hK1 _ _ ?_
 try clear hK1 K1
 refine T_ret ?_
 try simp only [tR, bR, lR]
 exact owes_one (.inr rfl) hwf rfl (by rw [show nearB n m = false from by simp only [nearB, if_neg h0]] <;> simp [h0]) (by simp (maxDischargeDepth := 20)) (by simp) (by simp)
def bitsN (n : Int) : Int := if n = 1 then 1 else if n = 2 then 8 else if n = 6 then 8 else if n = 10 then 8 else if n = 3 then 16 else if n = 7 then 16 else if n = 11 then 16 else if n = 4 then 32 else if n = 8 then 32 else if n = 12 then 32 else if n = 5 then 64 else if n = 9 then 64 else if n = 13 then 64 else 0
set_option maxRecDepth 100000 in
set_option maxHeartbeats 4000000 in
theorem bitsIs (H : AS) (n : Int) : ACalls Tryz.prog 82 [.val (.int .u8 n)] H fun q H' => q = pi (bitsN n) ∧ H' = H := by
 refine ACalls_intro Tryz.func82 rfl (by kernel_rfl) (by simp) fun hwf hbel => ?_
 refine T_sr fun K0 hK0 => ?_
 simp
 refine hK0 _ _ ?_
 try clear hK0 K0
 refine T_seqk fun K1 hK1 => ?_
 refine T_sr fun K2 hK2 => ?_
 simp
 refine hK2 _ _ ?_
 try clear hK2 K2
 refine T_block ?_
 refine T_sr fun K3 hK3 => ?_
 simp
 refine hK3 _ _ ?_
 try clear hK3 K3
 by_cases h0 : n = 1
 refine T_condT (by first | rfl | simp [h0]) ?_
 refine T_sr fun K4 hK4 => ?_
 simp [h0]
 refine hK4 _ _ ?_
 try clear hK4 K4
 refine T_ret ?_
 try simp only [tR, bR, lR]
 exact owes_one (.inr rfl) hwf rfl (by rw [show bitsN n = 1 from by simp only [bitsN, if_pos h0]] <;> simp [h0]) (by simp (maxDischargeDepth := 20)) (by simp) (by simp)
 refine T_condF (by first | rfl | simp [h0]) ?_
 refine T_seqk fun K5 hK5 => ?_
 refine T_sr fun K6 hK6 => ?_
 simp [h0]
 refine hK6 _ _ ?_
 try clear hK6 K6
 by_cases h1 : n = 2
 refine T_condT (by first | rfl | simp [h0, h1]) ?_
 refine T_skip ?_
 try simp only [tN, bN, lN]
 refine hK5 _ _ ?_
 try clear hK5 K5
 refine T_condT (by first | rfl | simp [h0, h1]) ?_
 refine T_sr fun K7 hK7 => ?_
 simp [h0, h1]
 refine hK7 _ _ ?_
 try clear hK7 K7
 refine T_ret ?_
 try simp only [tR, bR, lR]
 exact owes_one (.inr rfl) hwf rfl (by rw [show bitsN n = 8 from by simp only [bitsN, if_neg h0, if_pos h1]] <;> simp [h0, h1]) (by simp (maxDischargeDepth := 20)) (by simp) (by simp)
 refine T_condF (by first | rfl | simp [h0, h1]) ?_
 refine T_sr fun K8 hK8 => ?_
 simp [h0, h1]
 refine hK8 _ _ ?_
 try clear hK8 K8
 by_cases h2 : n = 6
 refine T_condT (by first | rfl | simp [h0, h1, h2]) ?_
 refine T_skip ?_
 try simp only [tN, bN, lN]
 refine hK5 _ _ ?_
 try clear hK5 K5
 refine T_condT (by first | rfl | simp [h0, h1, h2]) ?_
 refine T_sr fun K9 hK9 => ?_
 simp [h0, h1, h2]
 refine hK9 _ _ ?_
 try clear hK9 K9
 refine T_ret ?_
 try simp only [tR, bR, lR]
 exact owes_one (.inr rfl) hwf rfl (by rw [show bitsN n = 8 from by simp only [bitsN, if_neg h0, if_neg h1, if_pos h2]] <;> simp [h0, h1, h2]) (by simp (maxDischargeDepth := 20)) (by simp) (by simp)
 refine T_condF (by first | rfl | simp [h0, h1, h2]) ?_
 refine T_rg ?_
 simp [h0, h1, h2]
 refine hK5 _ _ ?_
 try clear hK5 K5
 by_cases h3 : n = 10
 refine T_condT (by first | rfl | simp [h0, h1, h2, h3]) ?_
 refine T_sr fun K10 hK10 => ?_
 simp [h0, h1, h2, h3]
 refine hK10 _ _ ?_
 try clear hK10 K10
 refine T_ret ?_
 try simp only [tR, bR, lR]
 exact owes_one (.inr rfl) hwf rfl (by rw [show bitsN n = 8 from by simp only [bitsN, if_neg h0, if_neg h1, if_neg h2, if_pos h3]] <;> simp [h0, h1, h2, h3]) (by simp (maxDischargeDepth := 20)) (by simp) (by simp)
 refine T_condF (by first | rfl | simp [h0, h1, h2, h3]) ?_
 refine T_seqk fun K11 hK11 => ?_
 refine T_sr fun K12 hK12 => ?_
 simp [h0, h1, h2, h3]
 refine hK12 _ _ ?_
 try clear hK12 K12
 by_cases h4 : n = 3
 refine T_condT (by first | rfl | simp [h0, h1, h2, h3, h4]) ?_
 refine T_skip ?_
 try simp only [tN, bN, lN]
 refine hK11 _ _ ?_
 try clear hK11 K11
 refine T_condT (by first | rfl | simp [h0, h1, h2, h3, h4]) ?_
 refine T_sr fun K13 hK13 => ?_
 simp [h0, h1, h2, h3, h4]
 refine hK13 _ _ ?_
 try clear hK13 K13
 refine T_ret ?_
 try simp only [tR, bR, lR]
 exact owes_one (.inr rfl) hwf rfl (by rw [show bitsN n = 16 from by simp only [bitsN, if_neg h0, if_neg h1, if_neg h2, if_neg h3, if_pos h4]] <;> simp [h0, h1, h2, h3, h4]) (by simp (maxDischargeDepth := 20)) (by simp) (by simp)
 refine T_condF (by first | rfl | simp [h0, h1, h2, h3, h4]) ?_
 refine T_sr fun K14 hK14 => ?_
 simp [h0, h1, h2, h3, h4]
 refine hK14 _ _ ?_
 try clear hK14 K14
 by_cases h5 : n = 7
 refine T_condT (by first | rfl | simp [h0, h1, h2, h3, h4, h5]) ?_
 refine T_skip ?_
 try simp only [tN, bN, lN]
 refine hK11 _ _ ?_
 try clear hK11 K11
 refine T_condT (by first | rfl | simp [h0, h1, h2, h3, h4, h5]) ?_
 refine T_sr fun K15 hK15 => ?_
 simp [h0, h1, h2, h3, h4, h5]
 refine hK15 _ _ ?_
 try clear hK15 K15
 refine T_ret ?_
 try simp only [tR, bR, lR]
 exact owes_one (.inr rfl) hwf rfl (by rw [show bitsN n = 16 from by simp only [bitsN, if_neg h0, if_neg h1, if_neg h2, if_neg h3, if_neg h4, if_pos h5]] <;> simp [h0, h1, h2, h3, h4, h5]) (by simp (maxDischargeDepth := 20)) (by simp) (by simp)
 refine T_condF (by first | rfl | simp [h0, h1, h2, h3, h4, h5]) ?_
 refine T_rg ?_
 simp [h0, h1, h2, h3, h4, h5]
 refine hK11 _ _ ?_
 try clear hK11 K11
 by_cases h6 : n = 11
 refine T_condT (by first | rfl | simp [h0, h1, h2, h3, h4, h5, h6]) ?_
 refine T_sr fun K16 hK16 => ?_
 simp [h0, h1, h2, h3, h4, h5, h6]
 refine hK16 _ _ ?_
 try clear hK16 K16
 refine T_ret ?_
 try simp only [tR, bR, lR]
 exact owes_one (.inr rfl) hwf rfl (by rw [show bitsN n = 16 from by simp only [bitsN, if_neg h0, if_neg h1, if_neg h2, if_neg h3, if_neg h4, if_neg h5, if_pos h6]] <;> simp [h0, h1, h2, h3, h4, h5, h6]) (by simp (maxDischargeDepth := 20)) (by simp) (by simp)
 refine T_condF (by first | rfl | simp [h0, h1, h2, h3, h4, h5, h6]) ?_
 refine T_seqk fun K17 hK17 => ?_
 refine T_sr fun K18 hK18 => ?_
 simp [h0, h1, h2, h3, h4, h5, h6]
 refine hK18 _ _ ?_
 try clear hK18 K18
 by_cases h7 : n = 4
 refine T_condT (by first | rfl | simp [h0, h1, h2, h3, h4, h5, h6, h7]) ?_
 refine T_skip ?_
 try simp only [tN, bN, lN]
 refine hK17 _ _ ?_
 try clear hK17 K17
 refine T_condT (by first | rfl | simp [h0, h1, h2, h3, h4, h5, h6, h7]) ?_
 refine T_sr fun K19 hK19 => ?_
 simp [h0, h1, h2, h3, h4, h5, h6, h7]
 refine hK19 _ _ ?_
 try clear hK19 K19
 refine T_ret ?_
 try simp only [tR, bR, lR]
 exact owes_one (.inr rfl) hwf rfl (by rw [show bitsN n = 32 from by simp only [bitsN, if_neg h0, if_neg h1, if_neg h2, if_neg h3, if_neg h4, if_neg h5, if_neg h6, if_pos h7]] <;> simp [h0, h1, h2, h3, h4, h5, h6, h7]) (by simp (maxDischargeDepth := 20)) (by simp) (by simp)
 refine T_condF (by first | rfl | simp [h0, h1, h2, h3, h4, h5, h6, h7]) ?_
 refine T_sr fun K20 hK20 => ?_
 simp [h0, h1, h2, h3, h4, h5, h6, h7]
 refine hK20 _ _ ?_
 try clear hK20 K20
 by_cases h8 : n = 8
 refine T_condT (by first | rfl | simp [h0, h1, h2, h3, h4, h5, h6, h7, h8]) ?_
 refine T_skip ?_
 try simp only [tN, bN, lN]
 refine hK17 _ _ ?_
 try clear hK17 K17
 refine T_condT (by first | rfl | simp [h0, h1, h2, h3, h4, h5, h6, h7, h8]) ?_
 refine T_sr fun K21 hK21 => ?_
 simp [h0, h1, h2, h3, h4, h5, h6, h7, h8]
 refine hK21 _ _ ?_
 try clear hK21 K21
 refine T_ret ?_
 try simp only [tR, bR, lR]
 exact owes_one (.inr rfl) hwf rfl (by rw [show bitsN n = 32 from by simp only [bitsN, if_neg h0, if_neg h1, if_neg h2, if_neg h3, if_neg h4, if_neg h5, if_neg h6, if_neg h7, if_pos h8]] <;> simp [h0, h1, h2, h3, h4, h5, h6, h7, h8]) (by simp (maxDischargeDepth := 20)) (by simp) (by simp)
 refine T_condF (by first | rfl | simp [h0, h1, h2, h3, h4, h5, h6, h7, h8]) ?_
 refine T_rg ?_
 simp [h0, h1, h2, h3, h4, h5, h6, h7, h8]
 refine hK17 _ _ ?_
 try clear hK17 K17
 by_cases h9 : n = 12
 refine T_condT (by first | rfl | simp [h0, h1, h2, h3, h4, h5, h6, h7, h8, h9]) ?_
 refine T_sr fun K22 hK22 => ?_
 simp [h0, h1, h2, h3, h4, h5, h6, h7, h8, h9]
 refine hK22 _ _ ?_
 try clear hK22 K22
 refine T_ret ?_
 try simp only [tR, bR, lR]
 exact owes_one (.inr rfl) hwf rfl (by rw [show bitsN n = 32 from by simp only [bitsN, if_neg h0, if_neg h1, if_neg h2, if_neg h3, if_neg h4, if_neg h5, if_neg h6, if_neg h7, if_neg h8, if_pos h9]] <;> simp [h0, h1, h2, h3, h4, h5, h6, h7, h8, h9]) (by simp (maxDischargeDepth := 20)) (by simp) (by simp)
 refine T_condF (by first | rfl | simp [h0, h1, h2, h3, h4, h5, h6, h7, h8, h9]) ?_
 refine T_seqk fun K23 hK23 => ?_
 refine T_sr fun K24 hK24 => ?_
 simp [h0, h1, h2, h3, h4, h5, h6, h7, h8, h9]
 refine hK24 _ _ ?_
 try clear hK24 K24
 by_cases h10 : n = 5
 refine T_condT (by first | rfl | simp [h0, h1, h2, h3, h4, h5, h6, h7, h8, h9, h10]) ?_
 refine T_skip ?_
 try simp only [tN, bN, lN]
 refine hK23 _ _ ?_
 try clear hK23 K23
 refine T_condT (by first | rfl | simp [h0, h1, h2, h3, h4, h5, h6, h7, h8, h9, h10]) ?_
 refine T_sr fun K25 hK25 => ?_
 simp [h0, h1, h2, h3, h4, h5, h6, h7, h8, h9, h10]
 refine hK25 _ _ ?_
 try clear hK25 K25
 refine T_ret ?_
 try simp only [tR, bR, lR]
 exact owes_one (.inr rfl) hwf rfl (by rw [show bitsN n = 64 from by simp only [bitsN, if_neg h0, if_neg h1, if_neg h2, if_neg h3, if_neg h4, if_neg h5, if_neg h6, if_neg h7, if_neg h8, if_neg h9, if_pos h10]] <;> simp [h0, h1, h2, h3, h4, h5, h6, h7, h8, h9, h10]) (by simp (maxDischargeDepth := 20)) (by simp) (by simp)
 refine T_condF (by first | rfl | simp [h0, h1, h2, h3, h4, h5, h6, h7, h8, h9, h10]) ?_
 refine T_sr fun K26 hK26 => ?_
 simp [h0, h1, h2, h3, h4, h5, h6, h7, h8, h9, h10]
 refine hK26 _ _ ?_
 try clear hK26 K26
 by_cases h11 : n = 9
 refine T_condT (by first | rfl | simp [h0, h1, h2, h3, h4, h5, h6, h7, h8, h9, h10, h11]) ?_
 refine T_skip ?_
 try simp only [tN, bN, lN]
 refine hK23 _ _ ?_
 try clear hK23 K23
 refine T_condT (by first | rfl | simp [h0, h1, h2, h3, h4, h5, h6, h7, h8, h9, h10, h11]) ?_
 refine T_sr fun K27 hK27 => ?_
 simp [h0, h1, h2, h3, h4, h5, h6, h7, h8, h9, h10, h11]
 refine hK27 _ _ ?_
 try clear hK27 K27
 refine T_ret ?_
 try simp only [tR, bR, lR]
 exact owes_one (.inr rfl) hwf rfl (by rw [show bitsN n = 64 from by simp only [bitsN, if_neg h0, if_neg h1, if_neg h2, if_neg h3, if_neg h4, if_neg h5, if_neg h6, if_neg h7, if_neg h8, if_neg h9, if_neg h10, if_pos h11]] <;> simp [h0, h1, h2, h3, h4, h5, h6, h7, h8, h9, h10, h11]) (by simp (maxDischargeDepth := 20)) (by simp) (by simp)
 refine T_condF (by first | rfl | simp [h0, h1, h2, h3, h4, h5, h6, h7, h8, h9, h10, h11]) ?_
 refine T_rg ?_
 simp [h0, h1, h2, h3, h4, h5, h6, h7, h8, h9, h10, h11]
 refine hK23 _ _ ?_
 try clear hK23 K23
 by_cases h12 : n = 13
 refine T_condT (by first | rfl | simp [h0, h1, h2, h3, h4, h5, h6, h7, h8, h9, h10, h11, h12]) ?_
 refine T_sr fun K28 hK28 => ?_
 simp [h0, h1, h2, h3, h4, h5, h6, h7, h8, h9, h10, h11, h12]
 refine hK28 _ _ ?_
 try clear hK28 K28
 refine T_ret ?_
 try simp only [tR, bR, lR]
 exact owes_one (.inr rfl) hwf rfl (by rw [show bitsN n = 64 from by simp only [bitsN, if_neg h0, if_neg h1, if_neg h2, if_neg h3, if_neg h4, if_neg h5, if_neg h6, if_neg h7, if_neg h8, if_neg h9, if_neg h10, if_neg h11, if_pos h12]] <;> simp [h0, h1, h2, h3, h4, h5, h6, h7, h8, h9, h10, h11, h12]) (by simp (maxDischargeDepth := 20)) (by simp) (by simp)
 refine T_condF (by first | rfl | simp [h0, h1, h2, h3, h4, h5, h6, h7, h8, h9, h10, h11, h12]) ?_
 refine T_skip ?_
 try simp only [tN, bN, lN]
 refine hK1 _ _ ?_
 try clear hK1 K1
 refine T_sr fun K29 hK29 => ?_
 simp [h0, h1, h2, h3, h4, h5, h6, h7, h8, h9, h10, h11, h12]
 refine hK29 _ _ ?_
 try clear hK29 K29
 refine T_ret ?_
 try simp only [tR, bR, lR]
 exact owes_one (.inr rfl) hwf rfl (by rw [show bitsN n = 0 from by simp only [bitsN, if_neg h0, if_neg h1, if_neg h2, if_neg h3, if_neg h4, if_neg h5, if_neg h6, if_neg h7, if_neg h8, if_neg h9, if_neg h10, if_neg h11, if_neg h12]] <;> simp [h0, h1, h2, h3, h4, h5, h6, h7, h8, h9, h10, h11, h12]) (by simp (maxDischargeDepth := 20)) (by simp) (by simp)
def widthN (n : Int) : Int := if n = 2 then 8 else if n = 6 then 8 else if n = 10 then 8 else if n = 3 then 16 else if n = 7 then 16 else if n = 11 then 16 else if n = 4 then 32 else if n = 8 then 32 else if n = 12 then 32 else 64
set_option maxRecDepth 100000 in
set_option maxHeartbeats 4000000 in
theorem widthIs (H : AS) (n : Int) : ACalls Tryz.prog 137 [.val (.int .u8 n)] H fun q H' => q = (fun (z : Int) => PV.val (.int .u64 z)) (widthN n) ∧ H' = H := by
 refine ACalls_intro Tryz.func137 rfl (by kernel_rfl) (by simp) fun hwf hbel => ?_
 refine T_sr fun K0 hK0 => ?_
 simp
 refine hK0 _ _ ?_
 try clear hK0 K0
 refine T_seqk fun K1 hK1 => ?_
 refine T_sr fun K2 hK2 => ?_
 simp
 refine hK2 _ _ ?_
 try clear hK2 K2
 refine T_block ?_
 refine T_seqk fun K3 hK3 => ?_
 refine T_sr fun K4 hK4 => ?_
 simp
 refine hK4 _ _ ?_
 try clear hK4 K4
 by_cases h0 : n = 2
 refine T_condT (by first | rfl | simp [h0]) ?_
 refine T_skip ?_
 try simp only [tN, bN, lN]
 refine hK3 _ _ ?_
 try clear hK3 K3
 refine T_condT (by first | rfl | simp [h0]) ?_
 refine T_sr fun K5 hK5 => ?_
 simp [h0]
 refine hK5 _ _ ?_
 try clear hK5 K5
 refine T_ret ?_
 try simp only [tR, bR, lR]
 exact owes_one (.inr rfl) hwf rfl (by rw [show widthN n = 8 from by simp only [widthN, if_pos h0]] <;> simp [h0]) (by simp (maxDischargeDepth := 20)) (by simp) (by simp)
 refine T_condF (by first | rfl | simp [h0]) ?_
 refine T_sr fun K6 hK6 => ?_
 simp [h0]
 refine hK6 _ _ ?_
 try clear hK6 K6
 by_cases h1 : n = 6
 refine T_condT (by first | rfl | simp [h0, h1]) ?_
 refine T_skip ?_
 try simp only [tN, bN, lN]
 refine hK3 _ _ ?_
 try clear hK3 K3
 refine T_condT (by first | rfl | simp [h0, h1]) ?_
 refine T_sr fun K7 hK7 => ?_
 simp [h0, h1]
 refine hK7 _ _ ?_
 try clear hK7 K7
 refine T_ret ?_
 try simp only [tR, bR, lR]
 exact owes_one (.inr rfl) hwf rfl (by rw [show widthN n = 8 from by simp only [widthN, if_neg h0, if_pos h1]] <;> simp [h0, h1]) (by simp (maxDischargeDepth := 20)) (by simp) (by simp)
 refine T_condF (by first | rfl | simp [h0, h1]) ?_
 refine T_rg ?_
 simp [h0, h1]
 refine hK3 _ _ ?_
 try clear hK3 K3
 by_cases h2 : n = 10
 refine T_condT (by first | rfl | simp [h0, h1, h2]) ?_
 refine T_sr fun K8 hK8 => ?_
 simp [h0, h1, h2]
 refine hK8 _ _ ?_
 try clear hK8 K8
 refine T_ret ?_
 try simp only [tR, bR, lR]
 exact owes_one (.inr rfl) hwf rfl (by rw [show widthN n = 8 from by simp only [widthN, if_neg h0, if_neg h1, if_pos h2]] <;> simp [h0, h1, h2]) (by simp (maxDischargeDepth := 20)) (by simp) (by simp)
 refine T_condF (by first | rfl | simp [h0, h1, h2]) ?_
 refine T_seqk fun K9 hK9 => ?_
 refine T_sr fun K10 hK10 => ?_
 simp [h0, h1, h2]
 refine hK10 _ _ ?_
 try clear hK10 K10
 by_cases h3 : n = 3
 refine T_condT (by first | rfl | simp [h0, h1, h2, h3]) ?_
 refine T_skip ?_
 try simp only [tN, bN, lN]
 refine hK9 _ _ ?_
 try clear hK9 K9
 refine T_condT (by first | rfl | simp [h0, h1, h2, h3]) ?_
 refine T_sr fun K11 hK11 => ?_
 simp [h0, h1, h2, h3]
 refine hK11 _ _ ?_
 try clear hK11 K11
 refine T_ret ?_
 try simp only [tR, bR, lR]
 exact owes_one (.inr rfl) hwf rfl (by rw [show widthN n = 16 from by simp only [widthN, if_neg h0, if_neg h1, if_neg h2, if_pos h3]] <;> simp [h0, h1, h2, h3]) (by simp (maxDischargeDepth := 20)) (by simp) (by simp)
 refine T_condF (by first | rfl | simp [h0, h1, h2, h3]) ?_
 refine T_sr fun K12 hK12 => ?_
 simp [h0, h1, h2, h3]
 refine hK12 _ _ ?_
 try clear hK12 K12
 by_cases h4 : n = 7
 refine T_condT (by first | rfl | simp [h0, h1, h2, h3, h4]) ?_
 refine T_skip ?_
 try simp only [tN, bN, lN]
 refine hK9 _ _ ?_
 try clear hK9 K9
 refine T_condT (by first | rfl | simp [h0, h1, h2, h3, h4]) ?_
 refine T_sr fun K13 hK13 => ?_
 simp [h0, h1, h2, h3, h4]
 refine hK13 _ _ ?_
 try clear hK13 K13
 refine T_ret ?_
 try simp only [tR, bR, lR]
 exact owes_one (.inr rfl) hwf rfl (by rw [show widthN n = 16 from by simp only [widthN, if_neg h0, if_neg h1, if_neg h2, if_neg h3, if_pos h4]] <;> simp [h0, h1, h2, h3, h4]) (by simp (maxDischargeDepth := 20)) (by simp) (by simp)
 refine T_condF (by first | rfl | simp [h0, h1, h2, h3, h4]) ?_
 refine T_rg ?_
 simp [h0, h1, h2, h3, h4]
 refine hK9 _ _ ?_
 try clear hK9 K9
 by_cases h5 : n = 11
 refine T_condT (by first | rfl | simp [h0, h1, h2, h3, h4, h5]) ?_
 refine T_sr fun K14 hK14 => ?_
 simp [h0, h1, h2, h3, h4, h5]
 refine hK14 _ _ ?_
 try clear hK14 K14
 refine T_ret ?_
 try simp only [tR, bR, lR]
 exact owes_one (.inr rfl) hwf rfl (by rw [show widthN n = 16 from by simp only [widthN, if_neg h0, if_neg h1, if_neg h2, if_neg h3, if_neg h4, if_pos h5]] <;> simp [h0, h1, h2, h3, h4, h5]) (by simp (maxDischargeDepth := 20)) (by simp) (by simp)
 refine T_condF (by first | rfl | simp [h0, h1, h2, h3, h4, h5]) ?_
 refine T_seqk fun K15 hK15 => ?_
 refine T_sr fun K16 hK16 => ?_
 simp [h0, h1, h2, h3, h4, h5]
 refine hK16 _ _ ?_
 try clear hK16 K16
 by_cases h6 : n = 4
 refine T_condT (by first | rfl | simp [h0, h1, h2, h3, h4, h5, h6]) ?_
 refine T_skip ?_
 try simp only [tN, bN, lN]
 refine hK15 _ _ ?_
 try clear hK15 K15
 refine T_condT (by first | rfl | simp [h0, h1, h2, h3, h4, h5, h6]) ?_
 refine T_sr fun K17 hK17 => ?_
 simp [h0, h1, h2, h3, h4, h5, h6]
 refine hK17 _ _ ?_
 try clear hK17 K17
 refine T_ret ?_
 try simp only [tR, bR, lR]
 exact owes_one (.inr rfl) hwf rfl (by rw [show widthN n = 32 from by simp only [widthN, if_neg h0, if_neg h1, if_neg h2, if_neg h3, if_neg h4, if_neg h5, if_pos h6]] <;> simp [h0, h1, h2, h3, h4, h5, h6]) (by simp (maxDischargeDepth := 20)) (by simp) (by simp)
 refine T_condF (by first | rfl | simp [h0, h1, h2, h3, h4, h5, h6]) ?_
 refine T_sr fun K18 hK18 => ?_
 simp [h0, h1, h2, h3, h4, h5, h6]
 refine hK18 _ _ ?_
 try clear hK18 K18
 by_cases h7 : n = 8
 refine T_condT (by first | rfl | simp [h0, h1, h2, h3, h4, h5, h6, h7]) ?_
 refine T_skip ?_
 try simp only [tN, bN, lN]
 refine hK15 _ _ ?_
 try clear hK15 K15
 refine T_condT (by first | rfl | simp [h0, h1, h2, h3, h4, h5, h6, h7]) ?_
 refine T_sr fun K19 hK19 => ?_
 simp [h0, h1, h2, h3, h4, h5, h6, h7]
 refine hK19 _ _ ?_
 try clear hK19 K19
 refine T_ret ?_
 try simp only [tR, bR, lR]
 exact owes_one (.inr rfl) hwf rfl (by rw [show widthN n = 32 from by simp only [widthN, if_neg h0, if_neg h1, if_neg h2, if_neg h3, if_neg h4, if_neg h5, if_neg h6, if_pos h7]] <;> simp [h0, h1, h2, h3, h4, h5, h6, h7]) (by simp (maxDischargeDepth := 20)) (by simp) (by simp)
 refine T_condF (by first | rfl | simp [h0, h1, h2, h3, h4, h5, h6, h7]) ?_
 refine T_rg ?_
 simp [h0, h1, h2, h3, h4, h5, h6, h7]
 refine hK15 _ _ ?_
 try clear hK15 K15
 by_cases h8 : n = 12
 refine T_condT (by first | rfl | simp [h0, h1, h2, h3, h4, h5, h6, h7, h8]) ?_
 refine T_sr fun K20 hK20 => ?_
 simp [h0, h1, h2, h3, h4, h5, h6, h7, h8]
 refine hK20 _ _ ?_
 try clear hK20 K20
 refine T_ret ?_
 try simp only [tR, bR, lR]
 exact owes_one (.inr rfl) hwf rfl (by rw [show widthN n = 32 from by simp only [widthN, if_neg h0, if_neg h1, if_neg h2, if_neg h3, if_neg h4, if_neg h5, if_neg h6, if_neg h7, if_pos h8]] <;> simp [h0, h1, h2, h3, h4, h5, h6, h7, h8]) (by simp (maxDischargeDepth := 20)) (by simp) (by simp)
 refine T_condF (by first | rfl | simp [h0, h1, h2, h3, h4, h5, h6, h7, h8]) ?_
 refine T_skip ?_
 try simp only [tN, bN, lN]
 refine hK1 _ _ ?_
 try clear hK1 K1
 refine T_sr fun K21 hK21 => ?_
 simp [h0, h1, h2, h3, h4, h5, h6, h7, h8]
 refine hK21 _ _ ?_
 try clear hK21 K21
 refine T_ret ?_
 try simp only [tR, bR, lR]
 exact owes_one (.inr rfl) hwf rfl (by rw [show widthN n = 64 from by simp only [widthN, if_neg h0, if_neg h1, if_neg h2, if_neg h3, if_neg h4, if_neg h5, if_neg h6, if_neg h7, if_neg h8]] <;> simp [h0, h1, h2, h3, h4, h5, h6, h7, h8]) (by simp (maxDischargeDepth := 20)) (by simp) (by simp)
def mostN (n : Int) : Int := (Int.fdiv 18446744073709551615 (2 ^ min ((IntKind.wrap .u64 (64 - (widthN n)))).toNat IntKind.u64.bits))
set_option maxRecDepth 100000 in
set_option maxHeartbeats 4000000 in
theorem mostIs (H : AS) (n : Int) : ACalls Tryz.prog 138 [.val (.int .u8 n)] H fun q H' => q = (fun (z : Int) => PV.val (.int .u64 z)) (mostN n) ∧ H' = H := by
 refine ACalls_intro Tryz.func138 rfl (by kernel_rfl) (by simp) fun hwf hbel => ?_
 refine T_sr fun K0 hK0 => ?_
 simp
 refine hK0 _ _ ?_
 try clear hK0 K0
 refine T_sr fun K1 hK1 => ?_
 simp
 refine callK.of (widthIs _ n) ?_
 rintro _ Hz ⟨rfl, hz⟩
 subst Hz
 simp
 refine hK1 _ _ ?_
 try clear hK1 K1
 refine T_ret ?_
 try simp only [tR, bR, lR]
 exact owes_one (.inr rfl) hwf rfl (by rw [show mostN n = (Int.fdiv 18446744073709551615 (2 ^ min ((IntKind.wrap .u64 (64 - (widthN n)))).toNat IntKind.u64.bits)) from by simp only [mostN, ]] <;> simp []) (by simp (maxDischargeDepth := 20)) (by simp) (by simp)
def fitsB (n : Int) (m : Int) : Bool := if n = 1 then (if m ≤ 1 then true else false) else if signedB n = true then (if (IntKind.wrap .i64 (-(IntKind.wrap .i64 (2 ^ min ((IntKind.wrap .u64 ((widthN n) - 1))).toNat IntKind.i64.bits)))) ≤ (IntKind.wrap .i64 m) then (if (IntKind.wrap .i64 m) ≤ (IntKind.wrap .i64 ((IntKind.wrap .i64 (2 ^ min ((IntKind.wrap .u64 ((widthN n) - 1))).toNat IntKind.i64.bits)) - 1)) then true else if (widthN n) = 64 then true else false) else if (widthN n) = 64 then true else false) else if unsignedB n = true then (if m ≤ (mostN n) then true else false) else if rowB n = true then (if m ≤ (mostN n) then true else false) else if n = 14 then true else if n = 15 then (if m < 7258118400000000000 then (if (Int.tmod m 86400000000000) = 0 then true else false) else false) else if n = 16 then (if m < 86400000000000 then true else false) else if n = 17 then (if m < 7258118400000000000 then true else false) else false
set_option maxRecDepth 100000 in
set_option maxHeartbeats 4000000 in
theorem fitsIs (H : AS) (n : Int) (m : Int) : ACalls Tryz.prog 121 [.val (.int .u8 n), .val (.int .u64 m)] H fun q H' => q = pb (fitsB n m) ∧ H' = H := by
 refine ACalls_intro Tryz.func121 rfl (by kernel_rfl) (by simp) fun hwf hbel => ?_
 refine T_sr fun K0 hK0 => ?_
 simp
 refine hK0 _ _ ?_
 try clear hK0 K0
 refine T_sr fun K1 hK1 => ?_
 simp
 refine hK1 _ _ ?_
 try clear hK1 K1
 refine T_seqk fun K2 hK2 => ?_
 refine T_block ?_
 refine T_sr fun K3 hK3 => ?_
 simp
 refine hK3 _ _ ?_
 try clear hK3 K3
 by_cases h0 : n = 1
 refine T_condT (by first | rfl | simp [h0]) ?_
 refine T_sr fun K4 hK4 => ?_
 simp [h0]
 refine hK4 _ _ ?_
 try clear hK4 K4
 refine T_ret ?_
 try simp only [tR, bR, lR]
 by_cases h1 : m ≤ 1
 exact owes_one (.inr rfl) hwf rfl (by rw [show fitsB n m = true from by simp only [fitsB, if_pos h0, if_pos h1]] <;> simp [h0, h1]) (by simp (maxDischargeDepth := 20)) (by simp) (by simp)
 exact owes_one (.inr rfl) hwf rfl (by rw [show fitsB n m = false from by simp only [fitsB, if_pos h0, if_neg h1]] <;> simp [h0, h1]) (by simp (maxDischargeDepth := 20)) (by simp) (by simp)
 refine T_condF (by first | rfl | simp [h0]) ?_
 refine T_sr fun K5 hK5 => ?_
 simp [h0]
 refine callK.of (signedIs _ n) ?_
 rintro _ Hz ⟨rfl, hz⟩
 subst Hz
 simp [h0]
 refine hK5 _ _ ?_
 try clear hK5 K5
 by_cases h2 : signedB n = true
 refine T_condT (by first | rfl | simp [h0, h2]) ?_
 refine T_sr fun K6 hK6 => ?_
 simp [h0, h2]
 refine callK.of (widthIs _ n) ?_
 rintro _ Hz ⟨rfl, hz⟩
 subst Hz
 simp [h0, h2]
 refine hK6 _ _ ?_
 try clear hK6 K6
 refine T_seqk fun K7 hK7 => ?_
 by_cases h3 : (IntKind.wrap .i64 (-(IntKind.wrap .i64 (2 ^ min ((IntKind.wrap .u64 ((widthN n) - 1))).toNat IntKind.i64.bits)))) ≤ (IntKind.wrap .i64 m)
 by_cases h4 : (IntKind.wrap .i64 m) ≤ (IntKind.wrap .i64 ((IntKind.wrap .i64 (2 ^ min ((IntKind.wrap .u64 ((widthN n) - 1))).toNat IntKind.i64.bits)) - 1))
 refine T_rg ?_
 simp [h0, h2, h3, h4]
 refine hK7 _ _ ?_
 try clear hK7 K7
 refine T_ret ?_
 try simp only [tR, bR, lR]
 exact owes_one (.inr rfl) hwf rfl (by rw [show fitsB n m = true from by simp only [fitsB, if_neg h0, if_pos h2, if_pos h3, if_pos h4]] <;> simp [h0, h2, h3, h4]) (by simp (maxDischargeDepth := 20)) (by simp) (by simp)
 refine T_rg ?_
 simp [h0, h2, h3, h4]
 refine callK.of (widthIs _ n) ?_
 rintro _ Hz ⟨rfl, hz⟩
 subst Hz
 simp [h0, h2, h3, h4]
 refine hK7 _ _ ?_
 try clear hK7 K7
 refine T_ret ?_
 try simp only [tR, bR, lR]
 by_cases h5 : (widthN n) = 64
 exact owes_one (.inr rfl) hwf rfl (by rw [show fitsB n m = true from by simp only [fitsB, if_neg h0, if_pos h2, if_pos h3, if_neg h4, if_pos h5]] <;> simp [h0, h2, h3, h4, h5]) (by simp (maxDischargeDepth := 20)) (by simp) (by simp)
 exact owes_one (.inr rfl) hwf rfl (by rw [show fitsB n m = false from by simp only [fitsB, if_neg h0, if_pos h2, if_pos h3, if_neg h4, if_neg h5]] <;> simp [h0, h2, h3, h4, h5]) (by simp (maxDischargeDepth := 20)) (by simp) (by simp)
 refine T_rg ?_
 simp [h0, h2, h3]
 refine callK.of (widthIs _ n) ?_
 rintro _ Hz ⟨rfl, hz⟩
 subst Hz
 simp [h0, h2, h3]
 refine hK7 _ _ ?_
 try clear hK7 K7
 refine T_ret ?_
 try simp only [tR, bR, lR]
 by_cases h6 : (widthN n) = 64
 exact owes_one (.inr rfl) hwf rfl (by rw [show fitsB n m = true from by simp only [fitsB, if_neg h0, if_pos h2, if_neg h3, if_pos h6]] <;> simp [h0, h2, h3, h6]) (by simp (maxDischargeDepth := 20)) (by simp) (by simp)
 exact owes_one (.inr rfl) hwf rfl (by rw [show fitsB n m = false from by simp only [fitsB, if_neg h0, if_pos h2, if_neg h3, if_neg h6]] <;> simp [h0, h2, h3, h6]) (by simp (maxDischargeDepth := 20)) (by simp) (by simp)
 refine T_condF (by first | rfl | simp [h0, h2]) ?_
 refine T_seqk fun K8 hK8 => ?_
 by_cases h7 : unsignedB n = true
 refine T_rg ?_
 simp [h0, h2, h7]
 refine callK.of (unsignedIs _ n) ?_
 rintro _ Hz ⟨rfl, hz⟩
 subst Hz
 simp [h0, h2, h7]
 refine hK8 _ _ ?_
 try clear hK8 K8
 refine T_condT (by first | rfl | simp [h0, h2, h7]) ?_
 refine T_sr fun K9 hK9 => ?_
 simp [h0, h2, h7]
 refine callK.of (mostIs _ n) ?_
 rintro _ Hz ⟨rfl, hz⟩
 subst Hz
 simp [h0, h2, h7]
 refine hK9 _ _ ?_
 try clear hK9 K9
 refine T_ret ?_
 try simp only [tR, bR, lR]
 by_cases h8 : m ≤ (mostN n)
 exact owes_one (.inr rfl) hwf rfl (by rw [show fitsB n m = true from by simp only [fitsB, if_neg h0, if_neg h2, if_pos h7, if_pos h8]] <;> simp [h0, h2, h7, h8]) (by simp (maxDischargeDepth := 20)) (by simp) (by simp)
 exact owes_one (.inr rfl) hwf rfl (by rw [show fitsB n m = false from by simp only [fitsB, if_neg h0, if_neg h2, if_pos h7, if_neg h8]] <;> simp [h0, h2, h7, h8]) (by simp (maxDischargeDepth := 20)) (by simp) (by simp)
 refine T_rg ?_
 simp [h0, h2, h7]
 refine callK.of (unsignedIs _ n) ?_
 rintro _ Hz ⟨rfl, hz⟩
 subst Hz
 simp [h0, h2, h7]
 refine callK.of (rowIs _ n) ?_
 rintro _ Hz ⟨rfl, hz⟩
 subst Hz
 simp [h0, h2, h7]
 refine hK8 _ _ ?_
 try clear hK8 K8
 by_cases h9 : rowB n = true
 refine T_condT (by first | rfl | simp [h0, h2, h7, h9]) ?_
 refine T_sr fun K10 hK10 => ?_
 simp [h0, h2, h7, h9]
 refine callK.of (mostIs _ n) ?_
 rintro _ Hz ⟨rfl, hz⟩
 subst Hz
 simp [h0, h2, h7, h9]
 refine hK10 _ _ ?_
 try clear hK10 K10
 refine T_ret ?_
 try simp only [tR, bR, lR]
 by_cases h10 : m ≤ (mostN n)
 exact owes_one (.inr rfl) hwf rfl (by rw [show fitsB n m = true from by simp only [fitsB, if_neg h0, if_neg h2, if_neg h7, if_pos h9, if_pos h10]] <;> simp [h0, h2, h7, h9, h10]) (by simp (maxDischargeDepth := 20)) (by simp) (by simp)
 exact owes_one (.inr rfl) hwf rfl (by rw [show fitsB n m = false from by simp only [fitsB, if_neg h0, if_neg h2, if_neg h7, if_pos h9, if_neg h10]] <;> simp [h0, h2, h7, h9, h10]) (by simp (maxDischargeDepth := 20)) (by simp) (by simp)
 refine T_condF (by first | rfl | simp [h0, h2, h7, h9]) ?_
 refine T_sr fun K11 hK11 => ?_
 simp [h0, h2, h7, h9]
 refine hK11 _ _ ?_
 try clear hK11 K11
 by_cases h11 : n = 14
 refine T_condT (by first | rfl | simp [h0, h2, h7, h9, h11]) ?_
 refine T_sr fun K12 hK12 => ?_
 simp [h0, h2, h7, h9, h11]
 refine hK12 _ _ ?_
 try clear hK12 K12
 refine T_ret ?_
 try simp only [tR, bR, lR]
 exact owes_one (.inr rfl) hwf rfl (by rw [show fitsB n m = true from by simp only [fitsB, if_neg h0, if_neg h2, if_neg h7, if_neg h9, if_pos h11]] <;> simp [h0, h2, h7, h9, h11]) (by simp (maxDischargeDepth := 20)) (by simp) (by simp)
 refine T_condF (by first | rfl | simp [h0, h2, h7, h9, h11]) ?_
 refine T_sr fun K13 hK13 => ?_
 simp [h0, h2, h7, h9, h11]
 refine hK13 _ _ ?_
 try clear hK13 K13
 by_cases h12 : n = 15
 refine T_condT (by first | rfl | simp [h0, h2, h7, h9, h11, h12]) ?_
 refine T_seqk fun K14 hK14 => ?_
 by_cases h13 : m < 7258118400000000000
 refine T_rg ?_
 simp [h0, h2, h7, h9, h11, h12, h13]
 refine hK14 _ _ ?_
 try clear hK14 K14
 refine T_ret ?_
 try simp only [tR, bR, lR]
 by_cases h14 : (Int.tmod m 86400000000000) = 0
 exact owes_one (.inr rfl) hwf rfl (by rw [show fitsB n m = true from by simp only [fitsB, if_neg h0, if_neg h2, if_neg h7, if_neg h9, if_neg h11, if_pos h12, if_pos h13, if_pos h14]] <;> simp [h0, h2, h7, h9, h11, h12, h13, h14]) (by simp (maxDischargeDepth := 20)) (by simp) (by simp)
 exact owes_one (.inr rfl) hwf rfl (by rw [show fitsB n m = false from by simp only [fitsB, if_neg h0, if_neg h2, if_neg h7, if_neg h9, if_neg h11, if_pos h12, if_pos h13, if_neg h14]] <;> simp [h0, h2, h7, h9, h11, h12, h13, h14]) (by simp (maxDischargeDepth := 20)) (by simp) (by simp)
 refine T_rg ?_
 simp [h0, h2, h7, h9, h11, h12, h13]
 refine hK14 _ _ ?_
 try clear hK14 K14
 refine T_ret ?_
 try simp only [tR, bR, lR]
 exact owes_one (.inr rfl) hwf rfl (by rw [show fitsB n m = false from by simp only [fitsB, if_neg h0, if_neg h2, if_neg h7, if_neg h9, if_neg h11, if_pos h12, if_neg h13]] <;> simp [h0, h2, h7, h9, h11, h12, h13]) (by simp (maxDischargeDepth := 20)) (by simp) (by simp)
 refine T_condF (by first | rfl | simp [h0, h2, h7, h9, h11, h12]) ?_
 refine T_sr fun K15 hK15 => ?_
 simp [h0, h2, h7, h9, h11, h12]
 refine hK15 _ _ ?_
 try clear hK15 K15
 by_cases h15 : n = 16
 refine T_condT (by first | rfl | simp [h0, h2, h7, h9, h11, h12, h15]) ?_
 refine T_sr fun K16 hK16 => ?_
 simp [h0, h2, h7, h9, h11, h12, h15]
 refine hK16 _ _ ?_
 try clear hK16 K16
 refine T_ret ?_
 try simp only [tR, bR, lR]
 by_cases h16 : m < 86400000000000
 exact owes_one (.inr rfl) hwf rfl (by rw [show fitsB n m = true from by simp only [fitsB, if_neg h0, if_neg h2, if_neg h7, if_neg h9, if_neg h11, if_neg h12, if_pos h15, if_pos h16]] <;> simp [h0, h2, h7, h9, h11, h12, h15, h16]) (by simp (maxDischargeDepth := 20)) (by simp) (by simp)
 exact owes_one (.inr rfl) hwf rfl (by rw [show fitsB n m = false from by simp only [fitsB, if_neg h0, if_neg h2, if_neg h7, if_neg h9, if_neg h11, if_neg h12, if_pos h15, if_neg h16]] <;> simp [h0, h2, h7, h9, h11, h12, h15, h16]) (by simp (maxDischargeDepth := 20)) (by simp) (by simp)
 refine T_condF (by first | rfl | simp [h0, h2, h7, h9, h11, h12, h15]) ?_
 refine T_sr fun K17 hK17 => ?_
 simp [h0, h2, h7, h9, h11, h12, h15]
 refine hK17 _ _ ?_
 try clear hK17 K17
 by_cases h17 : n = 17
 refine T_condT (by first | rfl | simp [h0, h2, h7, h9, h11, h12, h15, h17]) ?_
 refine T_sr fun K18 hK18 => ?_
 simp [h0, h2, h7, h9, h11, h12, h15, h17]
 refine hK18 _ _ ?_
 try clear hK18 K18
 refine T_ret ?_
 try simp only [tR, bR, lR]
 by_cases h18 : m < 7258118400000000000
 exact owes_one (.inr rfl) hwf rfl (by rw [show fitsB n m = true from by simp only [fitsB, if_neg h0, if_neg h2, if_neg h7, if_neg h9, if_neg h11, if_neg h12, if_neg h15, if_pos h17, if_pos h18]] <;> simp [h0, h2, h7, h9, h11, h12, h15, h17, h18]) (by simp (maxDischargeDepth := 20)) (by simp) (by simp)
 exact owes_one (.inr rfl) hwf rfl (by rw [show fitsB n m = false from by simp only [fitsB, if_neg h0, if_neg h2, if_neg h7, if_neg h9, if_neg h11, if_neg h12, if_neg h15, if_pos h17, if_neg h18]] <;> simp [h0, h2, h7, h9, h11, h12, h15, h17, h18]) (by simp (maxDischargeDepth := 20)) (by simp) (by simp)
 refine T_condF (by first | rfl | simp [h0, h2, h7, h9, h11, h12, h15, h17]) ?_
 refine T_skip ?_
 try simp only [tN, bN, lN]
 refine hK2 _ _ ?_
 try clear hK2 K2
 refine T_sr fun K19 hK19 => ?_
 simp [h0, h2, h7, h9, h11, h12, h15, h17]
 refine hK19 _ _ ?_
 try clear hK19 K19
 refine T_ret ?_
 try simp only [tR, bR, lR]
 exact owes_one (.inr rfl) hwf rfl (by rw [show fitsB n m = false from by simp only [fitsB, if_neg h0, if_neg h2, if_neg h7, if_neg h9, if_neg h11, if_neg h12, if_neg h15, if_neg h17]] <;> simp [h0, h2, h7, h9, h11, h12, h15, h17]) (by simp (maxDischargeDepth := 20)) (by simp) (by simp)
def mayV (v : DVal) : Bool := if v.kind = 19 then (if v.bits = 0 then (if (v.text.size : Int) ≤ 254 then true else false) else false) else if v.text = ⟨#[]⟩ then (if v.kind = 18 then (if nanB (v.bits).toNat = true then (if v.bits = 9221120237041090561 then true else false) else true) else if knownB v.kind = true then (if fitsB v.kind v.bits = true then true else false) else false) else false
set_option maxRecDepth 100000 in
set_option maxHeartbeats 4000000 in
theorem mayVIs (H : AS) (v : DVal) : ACalls Tryz.prog 100 [.agg (v.row)] H fun q H' => q = pb (mayV v) ∧ H' = H := by
 refine ACalls_intro Tryz.func100 rfl (by kernel_rfl) (by simp) fun hwf hbel => ?_
 refine T_sr fun K0 hK0 => ?_
 simp
 refine hK0 _ _ ?_
 try clear hK0 K0
 refine T_seqk fun K1 hK1 => ?_
 refine T_block ?_
 refine T_sr fun K2 hK2 => ?_
 simp
 refine hK2 _ _ ?_
 try clear hK2 K2
 by_cases h0 : v.kind = 19
 refine T_condT (by first | rfl | simp [h0]) ?_
 refine T_seqk fun K3 hK3 => ?_
 by_cases h1 : v.bits = 0
 refine T_rg ?_
 simp [h0, h1]
 refine hK3 _ _ ?_
 try clear hK3 K3
 refine T_ret ?_
 try simp only [tR, bR, lR]
 by_cases h2 : (v.text.size : Int) ≤ 254
 exact owes_one (.inr rfl) hwf rfl (by rw [show mayV v = true from by simp only [mayV, if_pos h0, if_pos h1, if_pos h2]] <;> simp [h0, h1, h2]) (by simp (maxDischargeDepth := 20)) (by simp) (by simp)
 exact owes_one (.inr rfl) hwf rfl (by rw [show mayV v = false from by simp only [mayV, if_pos h0, if_pos h1, if_neg h2]] <;> simp [h0, h1, h2]) (by simp (maxDischargeDepth := 20)) (by simp) (by simp)
 refine T_rg ?_
 simp [h0, h1]
 refine hK3 _ _ ?_
 try clear hK3 K3
 refine T_ret ?_
 try simp only [tR, bR, lR]
 exact owes_one (.inr rfl) hwf rfl (by rw [show mayV v = false from by simp only [mayV, if_pos h0, if_neg h1]] <;> simp [h0, h1]) (by simp (maxDischargeDepth := 20)) (by simp) (by simp)
 refine T_condF (by first | rfl | simp [h0]) ?_
 refine T_sr fun K4 hK4 => ?_
 simp [h0]
 refine hK4 _ _ ?_
 try clear hK4 K4
 by_cases h3 : v.text = ⟨#[]⟩
 refine T_condF (by first | rfl | simp [h0, h3]) ?_
 refine T_sr fun K5 hK5 => ?_
 simp [h0, h3]
 refine hK5 _ _ ?_
 try clear hK5 K5
 by_cases h4 : v.kind = 18
 refine T_condT (by first | rfl | simp [h0, h3, h4]) ?_
 refine T_seqk fun K6 hK6 => ?_
 by_cases h5 : nanB (v.bits).toNat = true
 refine T_rg ?_
 simp [h0, h3, h4, h5]
 refine callK.of (frombitsIs _ v.bits) ?_
 rintro _ Hz ⟨rfl, hz⟩
 subst Hz
 simp [h0, h3, h4, h5]
 refine callK.of (isNaNIs _ (v.bits).toNat) ?_
 rintro _ Hz ⟨rfl, hz⟩
 subst Hz
 simp [h0, h3, h4, h5]
 refine hK6 _ _ ?_
 try clear hK6 K6
 refine T_ret ?_
 try simp only [tR, bR, lR]
 by_cases h6 : v.bits = 9221120237041090561
 exact owes_one (.inr rfl) hwf rfl (by rw [show mayV v = true from by simp only [mayV, if_neg h0, if_pos h3, if_pos h4, if_pos h5, if_pos h6]] <;> simp [h0, h3, h4, h5, h6]) (by simp (maxDischargeDepth := 20)) (by simp) (by simp)
 exact owes_one (.inr rfl) hwf rfl (by rw [show mayV v = false from by simp only [mayV, if_neg h0, if_pos h3, if_pos h4, if_pos h5, if_neg h6]] <;> simp [h0, h3, h4, h5, h6]) (by simp (maxDischargeDepth := 20)) (by simp) (by simp)
 refine T_rg ?_
 simp [h0, h3, h4, h5]
 refine callK.of (frombitsIs _ v.bits) ?_
 rintro _ Hz ⟨rfl, hz⟩
 subst Hz
 simp [h0, h3, h4, h5]
 refine callK.of (isNaNIs _ (v.bits).toNat) ?_
 rintro _ Hz ⟨rfl, hz⟩
 subst Hz
 simp [h0, h3, h4, h5]
 refine hK6 _ _ ?_
 try clear hK6 K6
 refine T_ret ?_
 try simp only [tR, bR, lR]
 exact owes_one (.inr rfl) hwf rfl (by rw [show mayV v = true from by simp only [mayV, if_neg h0, if_pos h3, if_pos h4, if_neg h5]] <;> simp [h0, h3, h4, h5]) (by simp (maxDischargeDepth := 20)) (by simp) (by simp)
 refine T_condF (by first | rfl | simp [h0, h3, h4]) ?_
 refine T_skip ?_
 try simp only [tN, bN, lN]
 refine hK1 _ _ ?_
 try clear hK1 K1
 refine T_seqk fun K7 hK7 => ?_
 by_cases h7 : knownB v.kind = true
 refine T_rg ?_
 simp [h0, h3, h4, h7]
 refine callK.of (knownIs _ v.kind) ?_
 rintro _ Hz ⟨rfl, hz⟩
 subst Hz
 simp [h0, h3, h4, h7]
 refine callK.of (fitsIs _ v.kind v.bits) ?_
 rintro _ Hz ⟨rfl, hz⟩
 subst Hz
 simp [h0, h3, h4, h7]
 refine hK7 _ _ ?_
 try clear hK7 K7
 refine T_ret ?_
 try simp only [tR, bR, lR]
 by_cases h8 : fitsB v.kind v.bits = true
 exact owes_one (.inr rfl) hwf rfl (by rw [show mayV v = true from by simp only [mayV, if_neg h0, if_pos h3, if_neg h4, if_pos h7, if_pos h8]] <;> simp [h0, h3, h4, h7, h8]) (by simp (maxDischargeDepth := 20)) (by simp) (by simp)
 exact owes_one (.inr rfl) hwf rfl (by rw [show mayV v = false from by simp only [mayV, if_neg h0, if_pos h3, if_neg h4, if_pos h7, if_neg h8]] <;> simp [h0, h3, h4, h7, h8]) (by simp (maxDischargeDepth := 20)) (by simp) (by simp)
 refine T_rg ?_
 simp [h0, h3, h4, h7]
 refine callK.of (knownIs _ v.kind) ?_
 rintro _ Hz ⟨rfl, hz⟩
 subst Hz
 simp [h0, h3, h4, h7]
 refine hK7 _ _ ?_
 try clear hK7 K7
 refine T_ret ?_
 try simp only [tR, bR, lR]
 exact owes_one (.inr rfl) hwf rfl (by rw [show mayV v = false from by simp only [mayV, if_neg h0, if_pos h3, if_neg h4, if_neg h7]] <;> simp [h0, h3, h4, h7]) (by simp (maxDischargeDepth := 20)) (by simp) (by simp)
 refine T_condT (by first | rfl | simp [h0, h3]) ?_
 refine T_sr fun K8 hK8 => ?_
 simp [h0, h3]
 refine hK8 _ _ ?_
 try clear hK8 K8
 refine T_ret ?_
 try simp only [tR, bR, lR]
 exact owes_one (.inr rfl) hwf rfl (by rw [show mayV v = false from by simp only [mayV, if_neg h0, if_neg h3]] <;> simp [h0, h3]) (by simp (maxDischargeDepth := 20)) (by simp) (by simp)
end Go.Abs
