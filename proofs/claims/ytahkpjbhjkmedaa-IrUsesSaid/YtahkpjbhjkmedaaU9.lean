import Derived.Test.YtahkpjbhjkmedaaU8
namespace Go.Abs
open Go.Proofs
set_option autoImplicit false
set_option linter.all false
theorem part_op (x : DOp) : partOf Try.prog 27 x.row 0 = some (.agg x.row) := by simp [partOf, DOp.row]
def ListAt (H : AS) (q : PV) (xs : List Int) : Prop := (xs = [] ∧ q = .nil) ∨ ∃ id, q = .msl id xs.length 1 ∧ H.box id = some (xs.map irow)
theorem OutIs.listAt {lo : Nat} {H : AS} {q : PV} {xs : List Int} (h : OutIs lo H q 1 (xs.map irow)) : ListAt H q xs := by
  rcases h with ⟨h, rfl⟩ | ⟨id, -, -, rfl, hb⟩
  · exact .inl ⟨by simpa using h, rfl⟩
  · exact .inr ⟨id, by simp, hb⟩
theorem OutIs.listAt_ext {lo : Nat} {H H' : AS} {q : PV} {xs : List Int} (h : OutIs lo H q 1 (xs.map irow)) (he : H.Ext H') : ListAt H' q xs := by
  rcases h with ⟨h, rfl⟩ | ⟨id, -, h2, rfl, hb⟩
  · exact .inl ⟨by simpa using h, rfl⟩
  · exact .inr ⟨id, by simp, by rw [he.box _ h2]; exact hb⟩
theorem ListAt.same {H H' : AS} {q : PV} {xs : List Int} (h : ListAt H q xs) (hS : Same (fun _ => True) H H') : ListAt H' q xs := by
  rcases h with h | ⟨id, h1, hb⟩
  · exact .inl h
  · exact .inr ⟨id, h1, by rw [hS.1 id trivial]; exact hb⟩
theorem ListAt.lenOf {H : AS} {q : PV} {xs : List Int} (h : ListAt H q xs) : lenOf q = some xs.length := by
  rcases h with ⟨rfl, rfl⟩ | ⟨id, rfl, hb⟩ <;> rfl
theorem eqOut2 (H : AS) (d : Nat) (xs ys : List Int) (hx : xs.length < 2 ^ 62) {q : PV} (hq : ListAt H q xs) : ACalls Try.prog 6 [q, PV.sl d 1 (ys.map irow)] H fun r H' => r = .val (.bool (decide (xs = ys))) ∧ H' = H := by
  rcases hq with ⟨rfl, rfl⟩ | ⟨id, rfl, hb⟩
  · exact eqOut H 0 d [] ys (by simp) .nil
  · exact eqMsl H d xs ys hx id hb
theorem ListAt.boxOf {H : AS} {q : PV} {xs : List Int} (h : ListAt H q xs) : ∀ j, q = .msl j xs.length 1 → H.box j = some (xs.map irow) := by
  rintro j rfl
  rcases h with ⟨rfl, h⟩ | ⟨id, h, hb⟩
  · cases h
  · cases h; exact hb
theorem onceL_small (a b : Int) : (onceL a b).length ≤ 2 := by unfold onceL; split <;> simp
theorem usesL_small (x : DOp) : (usesL x).length < 2 ^ 62 := by
  unfold usesL
  have h1 := onceL_small x.a x.d
  have h2 := onceL_small x.b x.c
  (repeat' split) <;> simp <;> omega
theorem nextL_small (x : DOp) (n : Int) : (nextL x n).length < 2 ^ 62 := by
  unfold nextL nextS sort2
  (repeat' split) <;> simp
theorem at_range (n : Int) : 0 ≤ IntKind.i64.wrap ((IntKind.u64.wrap n).tmod 16385) ∧ IntKind.i64.wrap ((IntKind.u64.wrap n).tmod 16385) < 16385 := by
  have h : 0 ≤ IntKind.u64.wrap n := by
    unfold IntKind.wrap; simp [IntKind.bits, IntKind.signed]; omega
  rw [Int.tmod_eq_emod_of_nonneg h, wrap_i64 (by omega) (by omega)]
  omega
set_option maxRecDepth 100000 in
theorem lawUses (H : AS) (x : DOp) (n : Int) : ACalls Try.prog 3 [.agg x.row, pi n] H fun q H' => q = pb true ∧ H' = H := by
  refine ACalls_intro Try.func3 rfl (by kernel_rfl) (by simp) fun hwf hbel => ?_
  refine T_seqk fun K0 hK0 => ?_
  refine T_regionL ?_ ?_
  · kernel_rfl
  simp [↓put_at, ↓AF.ev_tmp, ↓ex_cons, ↓ex_nil, ↓ex_box, ↓ex_assign, ↓AF.ev_bool, abox, frame0]
  refine hK0 _ _ ?_
  try clear hK0 K0
  refine T_seqk fun K1 hK1 => ?_
  refine T_draw (fun i => i = H.next) [] (.free 0 (.free 2 (.sole 1 (.sole 3 (.free 4 (.free 5 .done)))))) mix ?_ ?_ ?_
  · kernel_rfl
  · kernel_rfl
  simp [↓put_at, ↓AF.ev_tmp, ↓wk_free, ↓wk_sole, ↓wk_done, ↓wanted_none, Keeps, Same, ↓wk_load, ↓ex_call, ↓AF.ev_func, ↓wk_assign, aload, frame0, part_op]
  refine callK.of (usesOpen _ x) ?_
  rintro q1 H1 ⟨hq1, hext1⟩
  have b1 : H1.box H.next = some [x.row] := by rw [hext1.box _ (by simp)]; simp
  have cl1 : H1.color = H.color := by rw [hext1.color]; simp
  simp [↓put_at, ↓AF.ev_tmp, ↓wk_free, ↓wk_sole, ↓wk_done, ↓wanted_none, Keeps, Same, ↓wk_load, ↓ex_call, ↓AF.ev_func, ↓wk_assign, aload, frame0, part_op, b1, cl1]
  refine callK.of (usesOpen _ x) ?_
  rintro q2 H2 ⟨hq2, hext2⟩
  have b2 : H2.box H.next = some [x.row] := by rw [hext2.box _ (by have := hext1.next; simp at *; omega)]; simp [b1]
  have cl2 : H2.color = H.color := by rw [hext2.color]; simp [cl1]
  simp [↓put_at, ↓AF.ev_tmp, ↓wk_free, ↓wk_sole, ↓wk_done, ↓wanted_none, Keeps, Same, ↓wk_load, ↓ex_call, ↓AF.ev_func, ↓wk_assign, aload, frame0, part_op, b1, cl1, b2, cl2]
  refine hK1 _ _ ?_
  try clear hK1 K1
  refine T_seqk fun K2 hK2 => ?_
  refine T_regionL ?_ ?_
  · kernel_rfl
  simp [↓put_at, ↓AF.ev_tmp, ↓ex_cons, ↓ex_nil, ↓ex_load, ↓ex_call, ↓AF.ev_func, ↓ex_assign, aload, frame0, b2, part_op]
  refine callK.of (usesRef _ x) ?_
  rintro _ H3 ⟨rfl, e⟩
  subst H3
  simp [↓put_at, ↓AF.ev_tmp, ↓ex_cons, ↓ex_nil, ↓ex_load, ↓ex_call, ↓AF.ev_func, ↓ex_assign, aload, frame0, b2, part_op]
  refine hK2 _ _ ?_
  try clear hK2 K2
  refine T_seqk fun K3 hK3 => ?_
  refine T_seqk fun K4 hK4 => ?_
  refine T_draw (fun _ => True) [] (.free 0 (.free 1 (.free 2 (.free 3 (.free 4 (.free 5 (.free 6 (.free 7 (.free 8 (.free 9 (.free 10 .done))))))))))) mix ?_ ?_ ?_
  · kernel_rfl
  · kernel_rfl
  have hl2 : ListAt H2 q2 (usesL x) := hq2.listAt
  have hl1 : ListAt H2 q1 (usesL x) := hq1.listAt_ext hext2
  simp [↓put_at, ↓AF.ev_tmp, ↓wk_free, ↓wk_sole, ↓wk_done, ↓wanted_none, Keeps, Same, ↓wk_move, ↓wk_call, ↓AF.ev_func, ↓wk_unOp, ↓wanted_some, ↓wk_load, ↓wk_binOp, ↓wk_pick, ↓AF.ev_bool, aUn, aload, aBin, aBinV, frame0, b2, cl2, int_bne, part_op]
  refine askK.of _ ?_ (fun H' hS => eqOut2 H' _ (usesL x) (usesL x) (usesL_small x) (hl1.same hS)) ?_
  · intro H' hS; first | rfl | (rw [hS.2])
  simp [↓put_at, ↓AF.ev_tmp, ↓wk_free, ↓wk_sole, ↓wk_done, ↓wanted_none, Keeps, Same, ↓wk_move, ↓wk_call, ↓AF.ev_func, ↓wk_unOp, ↓wanted_some, ↓wk_load, ↓wk_binOp, ↓wk_pick, ↓AF.ev_bool, aUn, aload, aBin, aBinV, frame0, b2, cl2, int_bne, part_op]
  refine askK.of _ ?_ (fun H' hS => givesIr H' x) ?_
  · intro H' hS; first | rfl | (rw [hS.2])
  simp [↓put_at, ↓AF.ev_tmp, ↓wk_free, ↓wk_sole, ↓wk_done, ↓wanted_none, Keeps, Same, ↓wk_move, ↓wk_call, ↓AF.ev_func, ↓wk_unOp, ↓wanted_some, ↓wk_load, ↓wk_binOp, ↓wk_pick, ↓AF.ev_bool, aUn, aload, aBin, aBinV, frame0, b2, cl2, int_bne, part_op]
  refine askK.of _ ?_ (fun H' hS => givesRef H' x) ?_
  · intro H' hS; first | rfl | (rw [hS.2])
  simp [↓put_at, ↓AF.ev_tmp, ↓wk_free, ↓wk_sole, ↓wk_done, ↓wanted_none, Keeps, Same, ↓wk_move, ↓wk_call, ↓AF.ev_func, ↓wk_unOp, ↓wanted_some, ↓wk_load, ↓wk_binOp, ↓wk_pick, ↓AF.ev_bool, aUn, aload, aBin, aBinV, frame0, b2, cl2, int_bne, part_op]
  refine hK4 _ _ ?_
  try clear hK4 K4
  refine T_cond (rfl) (fun c0 => ?_) (fun c0 => ?_)
  · cases c0 --done
  · refine T_skip ?_
    simp only [thenK_normal, blockT_normal, loopT_normal]
    refine hK3 _ _ ?_
    try clear hK3 K3
    refine T_seqk fun K5 hK5 => ?_
    refine T_seqk fun K6 hK6 => ?_
    refine T_regionL ?_ ?_
    · kernel_rfl
    simp [↓put_at, ↓AF.ev_tmp, ↓ex_cons, ↓ex_nil, ↓ex_move, ↓ex_len, ↓AF.ev_int, aLen, frame0, aLen, hl1.lenOf]
    refine hK6 _ _ ?_
    try clear hK6 K6
    refine T_block ?_
    refine T_loop (fun k F H' => ∃ (i : Nat) (rows : List (List PV)), k = (usesL x).length - i ∧ i ≤ (usesL x).length ∧ F 1 = pi n ∧ F 2 = .ptr H.next 1 0 0 ∧ F 5 = q1 ∧ F 6 = q2 ∧ F 7 = PV.sl H.color 1 ((usesL x).map irow) ∧ F 27 = pi (usesL x).length ∧ F 28 = pi i ∧ rows.length = (usesL x).length ∧ (∀ r ∈ rows, r.length = 1) ∧ (∀ j, q1 ≠ .msl j (usesL x).length 1 → H'.box j = H2.box j) ∧ (∀ j, q1 = .msl j (usesL x).length 1 → H'.box j = some rows) ∧ H.Ext H') ((usesL x).length) ?_ ?_
    · refine ⟨0, (usesL x).map irow, ?_⟩
      simp [frame0, cl2]
      refine ⟨by simp [irow], hl1.boxOf, .trans (.trans ?_ hext1) hext2⟩
      exact .bump (.setBox (Nat.le_refl _) (.refl _))
    · rintro k F H' ⟨i, rows, rfl, hi, h1, h2, h5, h6, h7, h27, h28, hr, hr1, hbo, hbi, hext⟩
      refine T_seqk fun K7 hK7 => ?_
      refine T_regionL ?_ ?_
      · kernel_rfl
      simp [↓put_at, ↓AF.ev_tmp, ↓ex_cons, ↓ex_nil, ↓ex_binOp, aBin, aBinV, frame0, h1, h2, h5, h6, h7, h27, h28]
      refine hK7 _ _ ?_
      try clear hK7 K7
      refine T_seqk fun K8 hK8 => ?_
      refine T_cond (by first | rfl | exact h1 | exact h2 | exact h5 | exact h6 | exact h7 | exact h27 | exact h28) (fun c1 => ?_) (fun c1 => ?_)
      · have hlt : i < (usesL x).length := by simpa using c1
        refine T_skip ?_
        simp only [thenK_normal, blockT_normal, loopT_normal]
        refine hK8 _ _ ?_
        try clear hK8 K8
        refine T_seqk fun K9 hK9 => ?_
        refine T_block ?_
        refine T_seqk fun K10 hK10 => ?_
        refine T_regionL ?_ ?_
        · kernel_rfl
        simp [↓put_at, ↓AF.ev_tmp, ↓ex_cons, ↓ex_nil, ↓ex_move, ↓ex_assign, frame0, h1, h2, h5, h6, h7, h27, h28]
        refine hK10 _ _ ?_
        try clear hK10 K10
        refine T_regionL ?_ ?_
        · kernel_rfl
        rcases hq1 with ⟨h, rfl⟩ | ⟨id, hid1, hid2, rfl, hbox⟩
        · have h0 : usesL x = [] := by simpa using h
          simp [h0] at hlt
        simp at h5 hid1 hbo hbi
        
        simp [↓put_at, ↓AF.ev_tmp, ↓ex_cons, ↓ex_nil, ↓ex_move, ↓ex_indexAddr, ↓ex_store, ↓AF.ev_int, aIndexAddr, astore, splice, frame0, h1, h2, h5, h6, h7, h27, h28, aIndexAddr, amsl hlt, hbi, hr, List.getElem?_eq_getElem (show i < rows.length by omega), hr1 _ (List.getElem_mem _)]
        refine hK9 _ _ ?_
        try clear hK9 K9
        refine T_regionL ?_ ?_
        · kernel_rfl
        simp [↓put_at, ↓AF.ev_tmp, ↓ex_cons, ↓ex_nil, ↓ex_binOp, ↓AF.ev_int, ↓ex_move, aBin, aBinV, frame0, h1, h2, h5, h6, h7, h27, h28]
        -- end of a round of loop 0
        refine ⟨(usesL x).length - (i + 1), by omega, i + 1, rfl, by omega, ?_, _, ?_, ?_, ?_, rfl, .setBox (by omega) hext⟩
        · rw [wrap_i64 (by have := usesL_small x; omega) (by have := usesL_small x; omega)]; rfl
        · simpa using hr
        · intro r hrm
          rcases List.mem_or_eq_of_mem_set hrm with h | h
          · exact hr1 r h
          · subst h; simp [hr1 rows[i] (List.getElem_mem _)]
        · intro j hj
          rw [if_neg (Ne.symm hj)]
          exact hbo j hj
      · refine T_exit ?_
        try simp only [thenK_exit, blockT_exit, loopT_exit, if_true, Nat.reduceEqDiff, if_false, reduceIte, thenK_normal, blockT_normal, loopT_normal]
        refine hK5 _ _ ?_
        try clear hK5 K5
        refine T_seqk fun K11 hK11 => ?_
        refine T_seqk fun K12 hK12 => ?_
        refine T_regionL ?_ ?_
        · kernel_rfl
        have hne : ∀ j, (∀ id, q1 = .msl id (usesL x).length 1 → id ≠ j) → H'.box j = H2.box j := fun j hj => hbo j (fun e => hj j e rfl)
        have hl3 : ListAt H' q2 (usesL x) := by
          rcases hq2 with ⟨h, rfl⟩ | ⟨id, ha, hb, rfl, hc⟩
          · exact .inl ⟨by simpa using h, rfl⟩
          · refine .inr ⟨id, by simp, ?_⟩
            rw [hne id ?_]; exact hc
            rintro j rfl
            rcases hq1 with ⟨h, hh⟩ | ⟨id1, ha1, hb1, hh, hc1⟩
            · cases hh
            · simp at hh; omega
        have hb3 : H'.box H.next = some [x.row] := by
          rw [hne _ ?_]; exact b2
          rintro j rfl
          rcases hq1 with ⟨h, hh⟩ | ⟨id1, ha1, hb1, hh, hc1⟩
          · cases hh
          · simp at hh; simp at ha1; omega
        simp [↓put_at, ↓AF.ev_tmp, ↓ex_cons, ↓ex_nil, ↓ex_move, ↓ex_call, ↓AF.ev_func, ↓ex_unOp, aUn, frame0, h1, h2, h5, h6, h7, h27, h28]
        refine callK.of (eqOut2 _ _ (usesL x) (usesL x) (usesL_small x) hl3) ?_
        rintro _ _ ⟨rfl, rfl⟩
        simp [↓put_at, ↓AF.ev_tmp, ↓ex_cons, ↓ex_nil, ↓ex_move, ↓ex_call, ↓AF.ev_func, ↓ex_unOp, aUn, frame0, h1, h2, h5, h6, h7, h27, h28]
        refine hK12 _ _ ?_
        try clear hK12 K12
        refine T_cond (by first | rfl | exact h1 | exact h2 | exact h5 | exact h6 | exact h7 | exact h27 | exact h28) (fun c2 => ?_) (fun c2 => ?_)
        · cases c2 --done
        · refine T_skip ?_
          simp only [thenK_normal, blockT_normal, loopT_normal]
          refine hK11 _ _ ?_
          try clear hK11 K11
          refine T_seqk fun K13 hK13 => ?_
          refine T_regionL ?_ ?_
          · kernel_rfl
          simp [↓put_at, ↓AF.ev_tmp, ↓ex_cons, ↓ex_nil, ↓ex_move, ↓ex_convert, ↓ex_binOp, ↓AF.ev_int, ↓ex_assign, aConvert, aBin, aBinV, frame0, h1, h2, h5, h6, h7, h27, h28, aConvert]
          refine hK13 _ _ ?_
          try clear hK13 K13
          refine T_seqk fun K14 hK14 => ?_
          refine T_draw (fun _ => True) [] (.free 0 (.free 1 (.free 2 (.free 3 (.free 4 (.free 5 (.free 6 (.free 7 .done)))))))) mix ?_ ?_ ?_
          · kernel_rfl
          · kernel_rfl
          simp [↓put_at, ↓AF.ev_tmp, ↓wk_free, ↓wk_sole, ↓wk_done, ↓wanted_none, Keeps, Same, ↓wk_load, ↓wk_move, ↓wk_call, ↓AF.ev_func, ↓wk_assign, aload, frame0, h1, h2, h5, h6, h7, h27, h28, hb3, part_op]
          refine askK.of _ ?_ (fun H' hS => nextIr H' x _ (at_range n)) ?_
          · intro H' hS; first | rfl | (rw [hS.2])
          simp [↓put_at, ↓AF.ev_tmp, ↓wk_free, ↓wk_sole, ↓wk_done, ↓wanted_none, Keeps, Same, ↓wk_load, ↓wk_move, ↓wk_call, ↓AF.ev_func, ↓wk_assign, aload, frame0, h1, h2, h5, h6, h7, h27, h28, hb3, part_op]
          refine askK.of _ ?_ (fun H' hS => nextRef H' x _ (at_range n)) ?_
          · intro H' hS; first | rfl | (rw [hS.2])
          simp [↓put_at, ↓AF.ev_tmp, ↓wk_free, ↓wk_sole, ↓wk_done, ↓wanted_none, Keeps, Same, ↓wk_load, ↓wk_move, ↓wk_call, ↓AF.ev_func, ↓wk_assign, aload, frame0, h1, h2, h5, h6, h7, h27, h28, hb3, part_op]
          refine askK.of _ ?_ (fun H' hS => eqFrozen H' _ (nextL x _) (nextL x _) (nextL_small x _) _) ?_
          · intro H' hS; first | rfl | (rw [hS.2])
          simp [↓put_at, ↓AF.ev_tmp, ↓wk_free, ↓wk_sole, ↓wk_done, ↓wanted_none, Keeps, Same, ↓wk_load, ↓wk_move, ↓wk_call, ↓AF.ev_func, ↓wk_assign, aload, frame0, h1, h2, h5, h6, h7, h27, h28, hb3, part_op]
          refine hK14 _ _ ?_
          try clear hK14 K14
          refine T_ret ?_
          try simp only [thenK_ret, blockT_ret, loopT_ret]
          -- leaf 0: ret
          refine owes_one (.inr rfl) hwf rfl rfl hext (by simp) (by simp)
end Go.Abs
