import Derived.Test.YtbngednclmjfoaaF2
namespace Go.Abs
open Go.Proofs
set_option autoImplicit false
set_option linter.all false
theorem frozen_cells (xs : List DCell) : ∀ r ∈ xs.map DCell.row, ∀ p ∈ r, Frozen p := by simp [DCell.row, Frozen]
theorem below_cells (n : Nat) (xs : List DCell) : ∀ a ∈ xs, ∀ p ∈ a.row, Below n p := by simp [DCell.row, Below]
theorem frozen_ops (xs : List DOp) : ∀ r ∈ xs.map DOp.row, ∀ p ∈ r, Frozen p := by simp [DOp.row, Frozen]
theorem below_ops (n : Nat) (xs : List DOp) : ∀ a ∈ xs, ∀ p ∈ a.row, Below n p := by simp [DOp.row, Below]
theorem frozen_loops (xs : List DLoop) : ∀ r ∈ xs.map DLoop.row, ∀ p ∈ r, Frozen p := by simp [DLoop.row, Frozen]
theorem below_loops (n : Nat) (xs : List DLoop) : ∀ a ∈ xs, ∀ p ∈ a.row, Below n p := by simp [DLoop.row, Below]
theorem frozen_ints (xs : List Int) : ∀ r ∈ xs.map irow, ∀ p ∈ r, Frozen p := by simp [irow, Frozen]
theorem below_ints (n : Nat) (xs : List Int) : ∀ a ∈ xs, ∀ p ∈ irow a, Below n p := by simp [irow, Below]
set_option maxRecDepth 100000 in
theorem flatCopy (H : AS) (c : Nat) (x : DFlat) (ho : x.ops.length * 88 ≤ 2 ^ 47) (hl : x.loops.length * 24 ≤ 2 ^ 47) : ACalls Try.prog 17 [.agg (x.row c)] H fun q H' => q = .agg (x.row H.color) ∧ H' = H := by
  refine ACalls_intro Try.func17 rfl (by kernel_rfl) (by simp) fun hwf hbel => ?_
  refine T_seqk fun K0 hK0 => ?_
  refine T_regionL ?_ ?_
  · kernel_rfl
  simp [↓put_at, ↓AF.ev_tmp, ↓ex_cons, ↓ex_nil, ↓ex_box, ↓ex_alloc, abox, aalloc, frame0, DFlat.row]
  refine hK0 _ _ ?_
  try clear hK0 K0
  refine T_seqk fun K1 hK1 => ?_
  refine T_draw (fun id => id = H.next) [7, 9] (.free 0 (.free 1 (.free 2 (.free 3 (.free 4 (.free 5 (.free 6 (.sole 7 (.free 8 (.sole 9 .done)))))))))) mix ?_ ?_ ?_
  · kernel_rfl
  · kernel_rfl
  simp [↓put_at, ↓AF.ev_tmp, ↓wk_free, ↓wk_sole, ↓wk_done, ↓wanted_none, Keeps, Same, ↓wk_fieldAddr, ↓wk_load, ↓wk_call, ↓AF.ev_func, ↓ex_store, aFieldAddr, aload, partOf, astore, splice, frame0]
  refine askK.of _ ?_ (fun H' hS => cloneOps H' c (x.ops.map DOp.row) (frozen_ops _) (by simpa using ho)) ?_
  · intro H' hS; first | rfl | (rw [hS.2])
  simp [↓put_at, ↓AF.ev_tmp, ↓wk_free, ↓wk_sole, ↓wk_done, ↓wanted_none, Keeps, Same, ↓wk_fieldAddr, ↓wk_load, ↓wk_call, ↓AF.ev_func, ↓ex_store, aFieldAddr, aload, partOf, astore, splice, frame0]
  refine askK.of _ ?_ (fun H' hS => cloneLoops H' c (x.loops.map DLoop.row) (frozen_loops _) (by simpa using hl)) ?_
  · intro H' hS; first | rfl | (rw [hS.2])
  simp [↓put_at, ↓AF.ev_tmp, ↓wk_free, ↓wk_sole, ↓wk_done, ↓wanted_none, Keeps, Same, ↓wk_fieldAddr, ↓wk_load, ↓wk_call, ↓AF.ev_func, ↓ex_store, aFieldAddr, aload, partOf, astore, splice, frame0]
  refine hK1 _ _ ?_
  try clear hK1 K1
  refine T_seqk fun K2 hK2 => ?_
  refine T_regionL ?_ ?_
  · kernel_rfl
  simp [↓put_at, ↓AF.ev_tmp, ↓ex_cons, ↓ex_nil, ↓ex_load, ↓ex_store, aload, partOf, astore, splice, frame0]
  refine hK2 _ _ ?_
  try clear hK2 K2
  refine T_ret ?_
  try simp only [thenK_ret, blockT_ret, loopT_ret]
  -- leaf 0: ret
  refine owes_one (.inr rfl) hwf (by rw [show Try.f17.results.toList = [.cell 2 46] from rfl]; simp [aResults, aload, partOf]; rfl) ?_ ?_ ?_ ?_
  · rfl
  · repeat (first | exact AS.Ext.refl _ | refine AS.Ext.kill (by simp) ?_ | refine AS.Ext.bump ?_ | refine AS.Ext.setBox (by simp) ?_)
  · simp
  · simp; exact ⟨below_ops _ _, below_loops _ _⟩

set_option maxRecDepth 100000 in
theorem flatsCopy (H : AS) (c : Nat) (xs : List DFlat) (hn : xs.length * 104 ≤ 2 ^ 47) (hx : ∀ x ∈ xs, x.ops.length * 88 ≤ 2 ^ 47 ∧ x.loops.length * 24 ≤ 2 ^ 47) : ACalls Try.prog 8 [PV.sl c 8 (xs.map (DFlat.row c))] H fun q H' => q = PV.sl H.color 8 (xs.map (DFlat.row H.color)) ∧ H' = H := by
  refine ACalls_intro Try.func8 rfl (by kernel_rfl) (by simp) fun hwf hbel => ?_
  refine T_seqk fun K0 hK0 => ?_
  refine T_regionL ?_ ?_
  · kernel_rfl
  simp [↓put_at, ↓AF.ev_tmp, ↓ex_cons, ↓ex_nil, ↓ex_assign, ↓AF.ev_slice, frame0]
  refine hK0 _ _ ?_
  try clear hK0 K0
  refine T_seqk fun K1 hK1 => ?_
  refine T_regionL ?_ ?_
  · kernel_rfl
  simp [↓put_at, ↓AF.ev_tmp, ↓ex_cons, ↓ex_nil, ↓ex_assign, ↓AF.ev_slice, frame0]
  refine hK1 _ _ ?_
  try clear hK1 K1
  refine T_seqk fun K2 hK2 => ?_
  refine T_seqk fun K3 hK3 => ?_
  refine T_regionL ?_ ?_
  · kernel_rfl
  simp [↓put_at, ↓AF.ev_tmp, ↓ex_cons, ↓ex_nil, ↓ex_move, ↓ex_len, ↓AF.ev_int, aLen, frame0]
  refine hK3 _ _ ?_
  try clear hK3 K3
  refine T_block ?_
  refine T_loop (fun k F H' => ∃ i : Nat, k = xs.length - i ∧ i ≤ xs.length ∧ F 6 = PV.sl c 8 (xs.map (DFlat.row c)) ∧ F 7 = pi xs.length ∧ F 8 = pi i ∧ H.Ext H' ∧ OutIs H.next H' (F 3) 8 ((xs.take i).map (DFlat.row H.color))) (xs.length) ?_ ?_
  · refine ⟨0, ?_⟩
    simp [frame0]
    exact ⟨.refl _, .nil⟩
  · rintro k F H' ⟨i, rfl, hi, h6, h7, h8, hext, hout⟩
    refine T_seqk fun K4 hK4 => ?_
    refine T_regionL ?_ ?_
    · kernel_rfl
    simp [↓put_at, ↓AF.ev_tmp, ↓ex_cons, ↓ex_nil, ↓ex_binOp, aBin, aBinV, frame0, h6, h7, h8]
    refine hK4 _ _ ?_
    try clear hK4 K4
    refine T_seqk fun K5 hK5 => ?_
    refine T_cond rfl (fun c0 => ?_) (fun c0 => ?_)
    · have hlt : i < xs.length := by simpa using c0
      refine T_skip ?_
      simp only [thenK_normal, blockT_normal, loopT_normal]
      refine hK5 _ _ ?_
      try clear hK5 K5
      refine T_seqk fun K6 hK6 => ?_
      refine T_block ?_
      refine T_seqk fun K7 hK7 => ?_
      refine T_regionL ?_ ?_
      · kernel_rfl
      simp [↓put_at, ↓AF.ev_tmp, ↓ex_cons, ↓ex_nil, ↓ex_indexAddr, ↓ex_load, ↓ex_alloc, ↓ex_store, aIndexAddr, aload, aalloc, astore, splice, frame0, h6, h7, h8, sl_get (map_get (f := DFlat.row c) hlt), part_flat]
      refine hK7 _ _ ?_
      try clear hK7 K7
      refine T_regionL ?_ ?_
      · kernel_rfl
      simp [↓put_at, ↓AF.ev_tmp, ↓ex_cons, ↓ex_nil, ↓ex_move, ↓ex_load, ↓ex_call, ↓AF.ev_func, ↓ex_buildSlice, ↓ex_append, ↓ex_assign, aload, partOf, abuildSlice, frame0, h6, h7, h8, DFlat.row, abuildSlice, frzR_id, packed]
      refine callK.of (flatCopy _ c xs[i] (hx _ (List.getElem_mem _)).1 (hx _ (List.getElem_mem _)).2) ?_
      rintro _ _ ⟨rfl, rfl⟩
      simp [↓put_at, ↓AF.ev_tmp, ↓ex_cons, ↓ex_nil, ↓ex_move, ↓ex_load, ↓ex_call, ↓AF.ev_func, ↓ex_buildSlice, ↓ex_append, ↓ex_assign, aload, partOf, abuildSlice, frame0, h6, h7, h8, DFlat.row, abuildSlice, frzR_id, packed]
      refine appendK.of (aappend_out (lo := H.next) (rows := ((xs.take i).map (DFlat.row H.color))) (ys := [xs[i].row H.color]) ?_ ?_ rfl rfl Try.sz46 Try.zero46 Try.by46 rfl rfl (by decide) ?_ (by simp) ?_ ?_ ?_)
      · exact OutIs.keep hout (by simp <;> omega) (fun id _ hl => by simp [Nat.ne_of_lt hl, Nat.ne_of_lt (Nat.lt_succ_of_lt hl)])
      · have := hext.next; simp; omega
      · simp [srcOf, hext.color, DFlat.row]
      · simp [DFlat.row]
      · simp; omega
      intro p2 H2 hout2 hab
      try simp [aList, aOp, aPure]
      refine hK6 _ _ ?_
      try clear hK6 K6
      refine T_regionL ?_ ?_
      · kernel_rfl
      simp [↓put_at, ↓AF.ev_tmp, ↓ex_cons, ↓ex_nil, ↓ex_binOp, ↓AF.ev_int, ↓ex_move, aBin, aBinV, frame0, h6, h7, h8]
      -- end of a round of loop 0
      have hext2 : H.Ext H2 := hab H (Nat.le_refl _) (by repeat (first | exact hext | refine AS.Ext.kill (by have := hext.next; simp; omega) ?_ | refine AS.Ext.bump ?_ | refine AS.Ext.setBox (by have := hext.next; simp; omega) ?_))
      refine ⟨xs.length - (i + 1), by omega, i + 1, rfl, by omega, ?_⟩
      simp [h6, h7, h8]
      rw [wrap_i64 (by omega) (by omega)]
      refine ⟨rfl, hext2, ?_⟩
      rw [take_map_succ hlt]
      exact hout2
    · have hge : xs.length ≤ i := by simpa using c0
      refine T_exit ?_
      try simp only [thenK_exit, blockT_exit, loopT_exit, if_true, Nat.reduceEqDiff, if_false, reduceIte, thenK_normal, blockT_normal, loopT_normal]
      refine hK2 _ _ ?_
      try clear hK2 K2
      refine T_seqk fun K8 hK8 => ?_
      refine T_regionL ?_ ?_
      · kernel_rfl
      simp [↓put_at, ↓AF.ev_tmp, ↓ex_cons, ↓ex_nil, ↓ex_move, ↓ex_assign, frame0, h6, h7, h8]
      refine hK8 _ _ ?_
      try clear hK8 K8
      refine T_ret ?_
      try simp only [thenK_ret, blockT_ret, loopT_ret]
      -- leaf 0: ret
      rw [List.take_of_length_le hge] at hout
      refine owes_out (.inr rfl) hwf rfl (p := F 3) (lo := H.next) hout (Nat.le_refl _) hext ?_
      have hb := hbel _ List.mem_cons_self
      simp [DFlat.row] at hb ⊢
      exact hb
end Go.Abs
