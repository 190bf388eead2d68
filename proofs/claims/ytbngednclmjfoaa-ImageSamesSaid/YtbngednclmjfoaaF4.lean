import Derived.Test.YtbngednclmjfoaaF3
namespace Go.Abs
open Go.Proofs
set_option autoImplicit false
set_option linter.all false
def DFlat.Small (x : DFlat) : Prop := x.ops.length * 88 ≤ 2 ^ 47 ∧ x.loops.length * 24 ≤ 2 ^ 47
def DJob.Small (x : DJob) : Prop := x.codes.length * 8 ≤ 2 ^ 47 ∧ x.bases.length * 8 ≤ 2 ^ 47
def DImage.Small (x : DImage) : Prop := x.cells.length * 96 ≤ 2 ^ 47 ∧ x.codes.length * 104 ≤ 2 ^ 47 ∧ x.jobs.length * 96 ≤ 2 ^ 47 ∧ (∀ f ∈ x.codes, f.Small) ∧ ∀ j ∈ x.jobs, j.Small
set_option maxRecDepth 100000 in
theorem imageCopy (H : AS) (c : Nat) (x : DImage) (hx : x.Small) : ACalls Try.prog 4 [.agg (x.row c)] H fun q H' => q = .agg (x.row H.color) ∧ H' = H := by
  refine ACalls_intro Try.func4 rfl (by kernel_rfl) (by simp) fun hwf hbel => ?_
  obtain ⟨hx1, hx2, hx3, hx4, hx5⟩ := hx
  refine T_seqk fun K0 hK0 => ?_
  refine T_regionL ?_ ?_
  · kernel_rfl
  simp [↓put_at, ↓AF.ev_tmp, ↓ex_cons, ↓ex_nil, ↓ex_box, ↓ex_alloc, abox, aalloc, frame0, DImage.row]
  refine hK0 _ _ ?_
  try clear hK0 K0
  refine T_seqk fun K1 hK1 => ?_
  refine T_draw (fun id => id = H.next) [7, 9] (.free 0 (.free 1 (.free 2 (.free 3 (.free 4 (.free 5 (.free 6 (.sole 7 (.free 8 (.sole 9 .done)))))))))) mix ?_ ?_ ?_
  · kernel_rfl
  · kernel_rfl
  simp [↓put_at, ↓AF.ev_tmp, ↓wk_free, ↓wk_sole, ↓wk_done, ↓wanted_none, Keeps, Same, ↓wk_fieldAddr, ↓wk_load, ↓wk_call, ↓AF.ev_func, ↓ex_store, aFieldAddr, aload, partOf, astore, splice, frame0]
  refine askK.of _ ?_ (fun H' hS => cloneCells H' c (x.cells.map DCell.row) (frozen_cells _) (by simpa using hx1)) ?_
  · intro H' hS; first | rfl | (rw [hS.2])
  simp [↓put_at, ↓AF.ev_tmp, ↓wk_free, ↓wk_sole, ↓wk_done, ↓wanted_none, Keeps, Same, ↓wk_fieldAddr, ↓wk_load, ↓wk_call, ↓AF.ev_func, ↓ex_store, aFieldAddr, aload, partOf, astore, splice, frame0]
  refine askK.of _ ?_ (fun H' hS => flatsCopy H' c x.codes hx2 hx4) ?_
  · intro H' hS; first | rfl | (rw [hS.2])
  simp [↓put_at, ↓AF.ev_tmp, ↓wk_free, ↓wk_sole, ↓wk_done, ↓wanted_none, Keeps, Same, ↓wk_fieldAddr, ↓wk_load, ↓wk_call, ↓AF.ev_func, ↓ex_store, aFieldAddr, aload, partOf, astore, splice, frame0]
  refine hK1 _ _ ?_
  try clear hK1 K1
  refine T_seqk fun K2 hK2 => ?_
  refine T_regionL ?_ ?_
  · kernel_rfl
  simp [↓put_at, ↓AF.ev_tmp, ↓ex_cons, ↓ex_nil, ↓ex_assign, ↓AF.ev_slice, frame0]
  refine hK2 _ _ ?_
  try clear hK2 K2
  refine T_seqk fun K3 hK3 => ?_
  refine T_seqk fun K4 hK4 => ?_
  refine T_regionL ?_ ?_
  · kernel_rfl
  simp [↓put_at, ↓AF.ev_tmp, ↓ex_cons, ↓ex_nil, ↓ex_fieldAddr, ↓ex_load, ↓ex_len, ↓ex_move, ↓AF.ev_int, aFieldAddr, aload, partOf, aLen, frame0, aLen]
  refine hK4 _ _ ?_
  try clear hK4 K4
  refine T_block ?_
  refine T_loop (fun k F H' => ∃ i : Nat, k = x.jobs.length - i ∧ i ≤ x.jobs.length ∧ F 1 = .ptr H.next 1 0 0 ∧ F 2 = .ptr (H.next + 1) 1 0 0 ∧ F 15 = PV.sl c 7 (x.jobs.map (DJob.row c)) ∧ F 16 = pi x.jobs.length ∧ F 17 = pi i ∧ H.Ext H' ∧ H.next + 2 ≤ H'.next ∧ H'.box H.next = some [[ps x.name, PV.sl H.color 11 (x.cells.map DCell.row), PV.sl H.color 8 (x.codes.map (DFlat.row H.color)), PV.sl c 7 (x.jobs.map (DJob.row c))]] ∧ H'.box (H.next + 1) = some [[.val (.string ⟨#[]⟩), .nil, .nil, .nil]] ∧ OutIs (H.next + 2) H' (F 3) 7 ((x.jobs.take i).map (DJob.row H.color))) (x.jobs.length) ?_ ?_
  · refine ⟨0, ?_⟩
    simp [frame0]
    refine ⟨?_, .nil⟩
    repeat (first | exact AS.Ext.refl _ | refine AS.Ext.kill (by simp) ?_ | refine AS.Ext.bump ?_ | refine AS.Ext.setBox (by simp) ?_)
  · rintro k F H' ⟨i, rfl, hi, h1, h2, h15, h16, h17, hext, hnext, hb1, hb2, hout⟩
    refine T_seqk fun K5 hK5 => ?_
    refine T_regionL ?_ ?_
    · kernel_rfl
    simp [↓put_at, ↓AF.ev_tmp, ↓ex_cons, ↓ex_nil, ↓ex_binOp, aBin, aBinV, frame0, h1, h2, h15, h16, h17]
    refine hK5 _ _ ?_
    try clear hK5 K5
    refine T_seqk fun K6 hK6 => ?_
    refine T_cond rfl (fun c0 => ?_) (fun c0 => ?_)
    · have hlt : i < x.jobs.length := by simpa using c0
      refine T_skip ?_
      simp only [thenK_normal, blockT_normal, loopT_normal]
      refine hK6 _ _ ?_
      try clear hK6 K6
      refine T_seqk fun K7 hK7 => ?_
      refine T_block ?_
      refine T_seqk fun K8 hK8 => ?_
      refine T_regionL ?_ ?_
      · kernel_rfl
      simp [↓put_at, ↓AF.ev_tmp, ↓ex_cons, ↓ex_nil, ↓ex_indexAddr, ↓ex_load, ↓ex_alloc, ↓ex_store, aIndexAddr, aload, aalloc, astore, splice, frame0, h1, h2, h15, h16, h17, sl_get (map_get (f := DJob.row c) hlt), part_job]
      refine hK8 _ _ ?_
      try clear hK8 K8
      refine T_seqk fun K9 hK9 => ?_
      refine T_draw (fun id => id = H'.next) [7, 9] (.free 0 (.free 1 (.free 2 (.free 3 (.free 4 (.free 5 (.free 6 (.sole 7 (.free 8 (.sole 9 .done)))))))))) mix ?_ ?_ ?_
      · kernel_rfl
      · kernel_rfl
      simp [↓put_at, ↓AF.ev_tmp, ↓wk_free, ↓wk_sole, ↓wk_done, ↓wanted_none, Keeps, Same, ↓wk_fieldAddr, ↓wk_load, ↓wk_call, ↓AF.ev_func, ↓ex_store, aFieldAddr, aload, partOf, astore, splice, frame0, h1, h2, h15, h16, h17, DJob.row]
      refine askK.of _ ?_ (fun H' hS => cloneInts H' c (x.jobs[i].codes.map irow) (frozen_ints _) (by simpa using (hx5 _ (List.getElem_mem _)).1)) ?_
      · intro H' hS; first | rfl | (rw [hS.2])
      simp [↓put_at, ↓AF.ev_tmp, ↓wk_free, ↓wk_sole, ↓wk_done, ↓wanted_none, Keeps, Same, ↓wk_fieldAddr, ↓wk_load, ↓wk_call, ↓AF.ev_func, ↓ex_store, aFieldAddr, aload, partOf, astore, splice, frame0, h1, h2, h15, h16, h17, DJob.row]
      refine askK.of _ ?_ (fun H' hS => cloneInts H' c (x.jobs[i].bases.map irow) (frozen_ints _) (by simpa using (hx5 _ (List.getElem_mem _)).2)) ?_
      · intro H' hS; first | rfl | (rw [hS.2])
      simp [↓put_at, ↓AF.ev_tmp, ↓wk_free, ↓wk_sole, ↓wk_done, ↓wanted_none, Keeps, Same, ↓wk_fieldAddr, ↓wk_load, ↓wk_call, ↓AF.ev_func, ↓ex_store, aFieldAddr, aload, partOf, astore, splice, frame0, h1, h2, h15, h16, h17, DJob.row]
      refine hK9 _ _ ?_
      try clear hK9 K9
      refine T_regionL ?_ ?_
      · kernel_rfl
      simp [↓put_at, ↓AF.ev_tmp, ↓ex_cons, ↓ex_nil, ↓ex_move, ↓ex_load, ↓ex_buildSlice, ↓ex_append, ↓ex_assign, aload, partOf, abuildSlice, frame0, h1, h2, h15, h16, h17, DJob.row, abuildSlice, frzR_id, packed]
      refine appendK.of (aappend_out (lo := H.next + 2) (rows := ((x.jobs.take i).map (DJob.row H.color))) (ys := [x.jobs[i].row H.color]) ?_ ?_ rfl rfl Try.sz39 Try.zero39 Try.by39 rfl rfl (by decide) ?_ (by simp) ?_ ?_ ?_)
      · exact OutIs.keep hout (by simp <;> omega) (fun id _ hl => by simp [Nat.ne_of_lt hl, Nat.ne_of_lt (Nat.lt_succ_of_lt hl)])
      · simp; omega
      · simp [srcOf, hext.color, DJob.row]
      · simp [DJob.row]
      · simp; omega
      intro p2 H2 hout2 hab
      try simp [aList, aOp, aPure]
      refine hK7 _ _ ?_
      try clear hK7 K7
      refine T_regionL ?_ ?_
      · kernel_rfl
      simp [↓put_at, ↓AF.ev_tmp, ↓ex_cons, ↓ex_nil, ↓ex_binOp, ↓AF.ev_int, ↓ex_move, aBin, aBinV, frame0, h1, h2, h15, h16, h17]
      -- end of a round of loop 0
      have hext2 : H.Ext H2 := hab H (by omega) (by repeat (first | exact hext | refine AS.Ext.kill (by have := hext.next; simp; omega) ?_ | refine AS.Ext.bump ?_ | refine AS.Ext.setBox (by have := hext.next; simp; omega) ?_))
      have hn2 := hab.next (by simp; omega)
      have hb12 := hab.box (j := H.next) (by simp; omega) (by omega)
      have hb22 := hab.box (j := H.next + 1) (by simp; omega) (by omega)
      simp [Nat.ne_of_lt, show H.next < H'.next by omega, show H.next < H'.next + 1 by omega, show H.next + 1 < H'.next by omega, show H.next + 1 < H'.next + 1 by omega, hb1, hb2] at hb12 hb22
      refine ⟨x.jobs.length - (i + 1), by omega, i + 1, rfl, by omega, ?_⟩
      simp [h1, h2, h15, h16, h17]
      rw [wrap_i64 (by omega) (by omega)]
      refine ⟨rfl, hext2, hn2, hb12, hb22, ?_⟩
      rw [take_map_succ hlt]
      exact hout2
    · have hge : x.jobs.length ≤ i := by simpa using c0
      refine T_exit ?_
      try simp only [thenK_exit, blockT_exit, loopT_exit, if_true, Nat.reduceEqDiff, if_false, reduceIte, thenK_normal, blockT_normal, loopT_normal]
      refine hK3 _ _ ?_
      try clear hK3 K3
      refine T_seqk fun K10 hK10 => ?_
      refine T_regionL ?_ ?_
      · kernel_rfl
      simp [↓put_at, ↓AF.ev_tmp, ↓ex_cons, ↓ex_nil, ↓ex_move, ↓ex_fieldAddr, ↓ex_store, aFieldAddr, astore, splice, frame0, h1, h2, h15, h16, h17, hb1, hb2, hout.cells, hout.okCells]
      refine hK10 _ _ ?_
      try clear hK10 K10
      refine T_seqk fun K11 hK11 => ?_
      refine T_regionL ?_ ?_
      · kernel_rfl
      simp [↓put_at, ↓AF.ev_tmp, ↓ex_cons, ↓ex_nil, ↓ex_load, ↓ex_store, aload, partOf, astore, splice, frame0, h1, h2, h15, h16, h17, hb1, hb2, hout.okCells]
      refine hK11 _ _ ?_
      try clear hK11 K11
      refine T_ret ?_
      try simp only [thenK_ret, blockT_ret, loopT_ret]
      -- leaf 0: ret
      rw [List.take_of_length_le hge] at hout
      have hb := hbel _ List.mem_cons_self
      simp [DImage.row, DFlat.row, DJob.row] at hb
      refine owes_agg_out (pre := [ps x.name, PV.sl H.color 11 (x.cells.map DCell.row), PV.sl H.color 8 (x.codes.map (DFlat.row H.color))]) (post := []) (p := F 3) (.inr rfl) hwf (by rw [show Try.f4.results.toList = [.cell 2 26] from rfl]; simp [aResults, aload, partOf, h2]) ?_ ?_ (OutIs.keep hout (by simp) (fun id hl _ => by simp [show id ≠ H.next by omega, show id ≠ H.next + 1 by omega])) (by omega) (.setBox (by omega) (.setBox (by omega) hext)) ?_
      · simp
      · simp
      · simp [DFlat.row, DJob.row]
        exact ⟨hb.1, hb.2.1, hb.2.2⟩

end Go.Abs
