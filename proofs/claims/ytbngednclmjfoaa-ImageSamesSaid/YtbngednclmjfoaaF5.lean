import Derived.Test.YtbngednclmjfoaaF4
namespace Go.Abs
open Go.Proofs
set_option autoImplicit false
set_option linter.all false
set_option maxRecDepth 100000 in
theorem sameFlat (H : AS) (c d : Nat) (x y : DFlat) (hb1 : x.ops.length < 2 ^ 62) (hb2 : x.loops.length < 2 ^ 62) : ACalls Try.prog 21 [.agg (x.row c), .agg (y.row d)] H fun r H' => r = .val (.bool (decide (x = y))) ∧ H' = H := by
  refine ACalls_intro Try.func21 rfl (by kernel_rfl) (by simp) fun hwf hbel => ?_
  refine T_seqk fun K0 hK0 => ?_
  refine T_regionL ?_ ?_
  · kernel_rfl
  simp [↓put_at, ↓AF.ev_tmp, ↓ex_cons, ↓ex_nil, ↓ex_box, ↓ex_assign, ↓AF.ev_bool, abox, frame0]
  refine hK0 _ _ ?_
  try clear hK0 K0
  refine T_seqk fun K1 hK1 => ?_
  refine T_seqk fun K2 hK2 => ?_
  refine T_regionL ?_ ?_
  · kernel_rfl
  suffices key : ∀ (F2 : AF) (H2 : AS), F2 2 = .ptr H.next 1 0 0 → F2 3 = .ptr (H.next + 1) 1 0 0 → F2 44 = pb (!decide (x.name = y.name ∧ x.what = y.what ∧ x.cells = y.cells ∧ x.base = y.base ∧ x.regs = y.regs ∧ x.slots = y.slots)) → H2.box H.next = some [x.row c] → H2.box (H.next + 1) = some [y.row d] → H.Ext H2 → K2 F2 H2 by
    by_cases h0 : x.name = y.name
    · by_cases h1 : x.what = y.what
      · by_cases h2 : x.cells = y.cells
        · by_cases h3 : x.base = y.base
          · by_cases h4 : x.regs = y.regs
            · by_cases h5 : x.slots = y.slots
              · simp [↓put_at, ↓AF.ev_tmp, ↓ex_cons, ↓ex_nil, ↓ex_fieldAddr, ↓ex_load, ↓ex_binOp, ↓ex_move, ↓ex_guard, ↓ex_pick, ↓AF.ev_bool, aFieldAddr, aload, partOf, aBin, aBinV, frame0, beq_bytes, int_bne, int_beq, DFlat.row, h0, h1, h2, h3, h4, h5]
                refine key _ _ ?_ ?_ ?_ ?_ ?_ ?_
                · simp
                · simp
                · simp [h0, h1, h2, h3, h4, h5]
                · simp [DFlat.row, h0, h1, h2, h3, h4, h5]
                · simp [DFlat.row]
                · exact (by repeat (first | exact AS.Ext.refl _ | refine AS.Ext.kill (by simp) ?_ | refine AS.Ext.bump ?_ | refine AS.Ext.setBox (by simp) ?_))
              · simp [↓put_at, ↓AF.ev_tmp, ↓ex_cons, ↓ex_nil, ↓ex_fieldAddr, ↓ex_load, ↓ex_binOp, ↓ex_move, ↓ex_guard, ↓ex_pick, ↓AF.ev_bool, aFieldAddr, aload, partOf, aBin, aBinV, frame0, beq_bytes, int_bne, int_beq, DFlat.row, h0, h1, h2, h3, h4, h5]
                refine key _ _ ?_ ?_ ?_ ?_ ?_ ?_
                · simp
                · simp
                · simp [h0, h1, h2, h3, h4, h5]
                · simp [DFlat.row, h0, h1, h2, h3, h4, h5]
                · simp [DFlat.row]
                · exact (by repeat (first | exact AS.Ext.refl _ | refine AS.Ext.kill (by simp) ?_ | refine AS.Ext.bump ?_ | refine AS.Ext.setBox (by simp) ?_))
            · simp [↓put_at, ↓AF.ev_tmp, ↓ex_cons, ↓ex_nil, ↓ex_fieldAddr, ↓ex_load, ↓ex_binOp, ↓ex_move, ↓ex_guard, ↓ex_pick, ↓AF.ev_bool, aFieldAddr, aload, partOf, aBin, aBinV, frame0, beq_bytes, int_bne, int_beq, DFlat.row, h0, h1, h2, h3, h4]
              refine key _ _ ?_ ?_ ?_ ?_ ?_ ?_
              · simp
              · simp
              · simp [h0, h1, h2, h3, h4]
              · simp [DFlat.row, h0, h1, h2, h3, h4]
              · simp [DFlat.row]
              · exact (by repeat (first | exact AS.Ext.refl _ | refine AS.Ext.kill (by simp) ?_ | refine AS.Ext.bump ?_ | refine AS.Ext.setBox (by simp) ?_))
          · simp [↓put_at, ↓AF.ev_tmp, ↓ex_cons, ↓ex_nil, ↓ex_fieldAddr, ↓ex_load, ↓ex_binOp, ↓ex_move, ↓ex_guard, ↓ex_pick, ↓AF.ev_bool, aFieldAddr, aload, partOf, aBin, aBinV, frame0, beq_bytes, int_bne, int_beq, DFlat.row, h0, h1, h2, h3]
            refine key _ _ ?_ ?_ ?_ ?_ ?_ ?_
            · simp
            · simp
            · simp [h0, h1, h2, h3]
            · simp [DFlat.row, h0, h1, h2, h3]
            · simp [DFlat.row]
            · exact (by repeat (first | exact AS.Ext.refl _ | refine AS.Ext.kill (by simp) ?_ | refine AS.Ext.bump ?_ | refine AS.Ext.setBox (by simp) ?_))
        · simp [↓put_at, ↓AF.ev_tmp, ↓ex_cons, ↓ex_nil, ↓ex_fieldAddr, ↓ex_load, ↓ex_binOp, ↓ex_move, ↓ex_guard, ↓ex_pick, ↓AF.ev_bool, aFieldAddr, aload, partOf, aBin, aBinV, frame0, beq_bytes, int_bne, int_beq, DFlat.row, h0, h1, h2]
          refine key _ _ ?_ ?_ ?_ ?_ ?_ ?_
          · simp
          · simp
          · simp [h0, h1, h2]
          · simp [DFlat.row, h0, h1, h2]
          · simp [DFlat.row]
          · exact (by repeat (first | exact AS.Ext.refl _ | refine AS.Ext.kill (by simp) ?_ | refine AS.Ext.bump ?_ | refine AS.Ext.setBox (by simp) ?_))
      · simp [↓put_at, ↓AF.ev_tmp, ↓ex_cons, ↓ex_nil, ↓ex_fieldAddr, ↓ex_load, ↓ex_binOp, ↓ex_move, ↓ex_guard, ↓ex_pick, ↓AF.ev_bool, aFieldAddr, aload, partOf, aBin, aBinV, frame0, beq_bytes, int_bne, int_beq, DFlat.row, h0, h1]
        refine key _ _ ?_ ?_ ?_ ?_ ?_ ?_
        · simp
        · simp
        · simp [h0, h1]
        · simp [DFlat.row, h0, h1]
        · simp [DFlat.row]
        · exact (by repeat (first | exact AS.Ext.refl _ | refine AS.Ext.kill (by simp) ?_ | refine AS.Ext.bump ?_ | refine AS.Ext.setBox (by simp) ?_))
    · simp [↓put_at, ↓AF.ev_tmp, ↓ex_cons, ↓ex_nil, ↓ex_fieldAddr, ↓ex_load, ↓ex_binOp, ↓ex_move, ↓ex_guard, ↓ex_pick, ↓AF.ev_bool, aFieldAddr, aload, partOf, aBin, aBinV, frame0, beq_bytes, int_bne, int_beq, DFlat.row, h0]
      refine key _ _ ?_ ?_ ?_ ?_ ?_ ?_
      · simp
      · simp
      · simp [h0]
      · simp [DFlat.row, h0]
      · simp [DFlat.row]
      · exact (by repeat (first | exact AS.Ext.refl _ | refine AS.Ext.kill (by simp) ?_ | refine AS.Ext.bump ?_ | refine AS.Ext.setBox (by simp) ?_))
  intro F2 H2 f2 f3 fl b1 b2 hext
  refine hK2 _ _ ?_
  try clear hK2 K2
  refine T_cond (t := !decide (x.name = y.name ∧ x.what = y.what ∧ x.cells = y.cells ∧ x.base = y.base ∧ x.regs = y.regs ∧ x.slots = y.slots)) ?_ (fun c0 => ?_) (fun c0 => ?_)
  · simpa using fl
  · refine T_seqk fun K3 hK3 => ?_
    refine T_regionL ?_ ?_
    · kernel_rfl
    simp [↓put_at, ↓AF.ev_tmp, ↓ex_cons, ↓ex_nil, ↓ex_assign, ↓AF.ev_bool, frame0]
    refine hK3 _ _ ?_
    try clear hK3 K3
    refine T_ret ?_
    try simp only [thenK_ret, blockT_ret, loopT_ret]
    -- leaf 0: ret
    have c0 : ¬ (x.name = y.name ∧ x.what = y.what ∧ x.cells = y.cells ∧ x.base = y.base ∧ x.regs = y.regs ∧ x.slots = y.slots) := fun hp => by rw [decide_eq_true hp] at c0; simp at c0
    refine owes_one (.inr rfl) hwf rfl ?_ hext (by simp [Frozen]) (by simp [Below])
    simp [DFlat.ext_iff]
    intros; simp_all
  · refine T_skip ?_
    simp only [thenK_normal, blockT_normal, loopT_normal]
    refine hK1 _ _ ?_
    try clear hK1 K1
    refine T_seqk fun K4 hK4 => ?_
    refine T_regionL ?_ ?_
    · kernel_rfl
    suffices key : ∀ (F3 : AF), F3 4 = pb (decide (x.ops = y.ops ∧ x.loops = y.loops)) → K4 F3 H2 by
      by_cases h0 : x.ops = y.ops
      · by_cases h1 : x.loops = y.loops
        · simp [↓put_at, ↓AF.ev_tmp, ↓ex_cons, ↓ex_nil, ↓ex_fieldAddr, ↓ex_load, ↓ex_call, ↓AF.ev_func, ↓ex_move, ↓ex_guard, ↓ex_pick, ↓AF.ev_bool, ↓ex_assign, aFieldAddr, aload, partOf, frame0, beq_bytes, int_bne, int_beq, DFlat.row, f2, f3, fl, b1, b2]
          refine callK.of (eqOps _ c d x.ops y.ops hb1) ?_
          rintro _ _ ⟨rfl, rfl⟩
          simp [↓put_at, ↓AF.ev_tmp, ↓ex_cons, ↓ex_nil, ↓ex_fieldAddr, ↓ex_load, ↓ex_call, ↓AF.ev_func, ↓ex_move, ↓ex_guard, ↓ex_pick, ↓AF.ev_bool, ↓ex_assign, aFieldAddr, aload, partOf, frame0, beq_bytes, int_bne, int_beq, DFlat.row, f2, f3, fl, b1, b2, h0]
          refine callK.of (eqLoops _ c d x.loops y.loops hb2) ?_
          rintro _ _ ⟨rfl, rfl⟩
          simp [↓put_at, ↓AF.ev_tmp, ↓ex_cons, ↓ex_nil, ↓ex_fieldAddr, ↓ex_load, ↓ex_call, ↓AF.ev_func, ↓ex_move, ↓ex_guard, ↓ex_pick, ↓AF.ev_bool, ↓ex_assign, aFieldAddr, aload, partOf, frame0, beq_bytes, int_bne, int_beq, DFlat.row, f2, f3, fl, b1, b2, h0, h1]
          exact key _ (by simp [h0, h1])
        · simp [↓put_at, ↓AF.ev_tmp, ↓ex_cons, ↓ex_nil, ↓ex_fieldAddr, ↓ex_load, ↓ex_call, ↓AF.ev_func, ↓ex_move, ↓ex_guard, ↓ex_pick, ↓AF.ev_bool, ↓ex_assign, aFieldAddr, aload, partOf, frame0, beq_bytes, int_bne, int_beq, DFlat.row, f2, f3, fl, b1, b2]
          refine callK.of (eqOps _ c d x.ops y.ops hb1) ?_
          rintro _ _ ⟨rfl, rfl⟩
          simp [↓put_at, ↓AF.ev_tmp, ↓ex_cons, ↓ex_nil, ↓ex_fieldAddr, ↓ex_load, ↓ex_call, ↓AF.ev_func, ↓ex_move, ↓ex_guard, ↓ex_pick, ↓AF.ev_bool, ↓ex_assign, aFieldAddr, aload, partOf, frame0, beq_bytes, int_bne, int_beq, DFlat.row, f2, f3, fl, b1, b2, h0]
          refine callK.of (eqLoops _ c d x.loops y.loops hb2) ?_
          rintro _ _ ⟨rfl, rfl⟩
          simp [↓put_at, ↓AF.ev_tmp, ↓ex_cons, ↓ex_nil, ↓ex_fieldAddr, ↓ex_load, ↓ex_call, ↓AF.ev_func, ↓ex_move, ↓ex_guard, ↓ex_pick, ↓AF.ev_bool, ↓ex_assign, aFieldAddr, aload, partOf, frame0, beq_bytes, int_bne, int_beq, DFlat.row, f2, f3, fl, b1, b2, h0, h1]
          exact key _ (by simp [h0, h1])
      · simp [↓put_at, ↓AF.ev_tmp, ↓ex_cons, ↓ex_nil, ↓ex_fieldAddr, ↓ex_load, ↓ex_call, ↓AF.ev_func, ↓ex_move, ↓ex_guard, ↓ex_pick, ↓AF.ev_bool, ↓ex_assign, aFieldAddr, aload, partOf, frame0, beq_bytes, int_bne, int_beq, DFlat.row, f2, f3, fl, b1, b2]
        refine callK.of (eqOps _ c d x.ops y.ops hb1) ?_
        rintro _ _ ⟨rfl, rfl⟩
        simp [↓put_at, ↓AF.ev_tmp, ↓ex_cons, ↓ex_nil, ↓ex_fieldAddr, ↓ex_load, ↓ex_call, ↓AF.ev_func, ↓ex_move, ↓ex_guard, ↓ex_pick, ↓AF.ev_bool, ↓ex_assign, aFieldAddr, aload, partOf, frame0, beq_bytes, int_bne, int_beq, DFlat.row, f2, f3, fl, b1, b2, h0]
        exact key _ (by simp [h0])
    intro F3 f4
    refine hK4 _ _ ?_
    try clear hK4 K4
    refine T_ret ?_
    try simp only [thenK_ret, blockT_ret, loopT_ret]
    -- leaf 1: ret
    refine owes_one (.inr rfl) hwf rfl ?_ hext ?_ ?_
    · rw [f4]
      have c0 : x.name = y.name ∧ x.what = y.what ∧ x.cells = y.cells ∧ x.base = y.base ∧ x.regs = y.regs ∧ x.slots = y.slots := Decidable.byContradiction fun hp => by rw [decide_eq_false hp] at c0; simp at c0
      simp [DFlat.ext_iff]
      simp_all
    · rw [f4]; simp
    · rw [f4]; simp
set_option maxRecDepth 100000 in
theorem sameCode (H : AS) (c d : Nat) (x y : DFlat) (hb1 : x.ops.length < 2 ^ 62) (hb2 : x.loops.length < 2 ^ 62) : ACalls Try.prog 12 [.agg (x.row c), .agg (y.row d)] H fun r H' => r = .val (.bool (decide (x = y))) ∧ H' = H := by
  refine ACalls_intro Try.func12 rfl (by kernel_rfl) (by simp) fun hwf hbel => ?_
  refine T_seqk fun K0 hK0 => ?_
  refine T_regionL ?_ ?_
  · kernel_rfl
  simp [↓put_at, ↓AF.ev_tmp, ↓ex_cons, ↓ex_nil, ↓ex_box, ↓ex_assign, ↓AF.ev_bool, abox, frame0]
  refine hK0 _ _ ?_
  try clear hK0 K0
  refine T_seqk fun K1 hK1 => ?_
  refine T_seqk fun K2 hK2 => ?_
  refine T_regionL ?_ ?_
  · kernel_rfl
  suffices key : ∀ (F2 : AF) (H2 : AS), F2 2 = .ptr H.next 1 0 0 → F2 3 = .ptr (H.next + 1) 1 0 0 → F2 44 = pb (!decide (x.name = y.name ∧ x.what = y.what ∧ x.cells = y.cells ∧ x.base = y.base ∧ x.regs = y.regs ∧ x.slots = y.slots)) → H2.box H.next = some [x.row c] → H2.box (H.next + 1) = some [y.row d] → H.Ext H2 → K2 F2 H2 by
    by_cases h0 : x.name = y.name
    · by_cases h1 : x.what = y.what
      · by_cases h2 : x.cells = y.cells
        · by_cases h3 : x.base = y.base
          · by_cases h4 : x.regs = y.regs
            · by_cases h5 : x.slots = y.slots
              · simp [↓put_at, ↓AF.ev_tmp, ↓ex_cons, ↓ex_nil, ↓ex_fieldAddr, ↓ex_load, ↓ex_binOp, ↓ex_move, ↓ex_guard, ↓ex_pick, ↓AF.ev_bool, aFieldAddr, aload, partOf, aBin, aBinV, frame0, beq_bytes, int_bne, int_beq, DFlat.row, h0, h1, h2, h3, h4, h5]
                refine key _ _ ?_ ?_ ?_ ?_ ?_ ?_
                · simp
                · simp
                · simp [h0, h1, h2, h3, h4, h5]
                · simp [DFlat.row, h0, h1, h2, h3, h4, h5]
                · simp [DFlat.row]
                · exact (by repeat (first | exact AS.Ext.refl _ | refine AS.Ext.kill (by simp) ?_ | refine AS.Ext.bump ?_ | refine AS.Ext.setBox (by simp) ?_))
              · simp [↓put_at, ↓AF.ev_tmp, ↓ex_cons, ↓ex_nil, ↓ex_fieldAddr, ↓ex_load, ↓ex_binOp, ↓ex_move, ↓ex_guard, ↓ex_pick, ↓AF.ev_bool, aFieldAddr, aload, partOf, aBin, aBinV, frame0, beq_bytes, int_bne, int_beq, DFlat.row, h0, h1, h2, h3, h4, h5]
                refine key _ _ ?_ ?_ ?_ ?_ ?_ ?_
                · simp
                · simp
                · simp [h0, h1, h2, h3, h4, h5]
                · simp [DFlat.row, h0, h1, h2, h3, h4, h5]
                · simp [DFlat.row]
                · exact (by repeat (first | exact AS.Ext.refl _ | refine AS.Ext.kill (by simp) ?_ | refine AS.Ext.bump ?_ | refine AS.Ext.setBox (by simp) ?_))
            · simp [↓put_at, ↓AF.ev_tmp, ↓ex_cons, ↓ex_nil, ↓ex_fieldAddr, ↓ex_load, ↓ex_binOp, ↓ex_move, ↓ex_guard, ↓ex_pick, ↓AF.ev_bool, aFieldAddr, aload, partOf, aBin, aBinV, frame0, beq_bytes, int_bne, int_beq, DFlat.row, h0, h1, h2, h3, h4]
              refine key _ _ ?_ ?_ ?_ ?_ ?_ ?_
              · simp
              · simp
              · simp [h0, h1, h2, h3, h4]
              · simp [DFlat.row, h0, h1, h2, h3, h4]
              · simp [DFlat.row]
              · exact (by repeat (first | exact AS.Ext.refl _ | refine AS.Ext.kill (by simp) ?_ | refine AS.Ext.bump ?_ | refine AS.Ext.setBox (by simp) ?_))
          · simp [↓put_at, ↓AF.ev_tmp, ↓ex_cons, ↓ex_nil, ↓ex_fieldAddr, ↓ex_load, ↓ex_binOp, ↓ex_move, ↓ex_guard, ↓ex_pick, ↓AF.ev_bool, aFieldAddr, aload, partOf, aBin, aBinV, frame0, beq_bytes, int_bne, int_beq, DFlat.row, h0, h1, h2, h3]
            refine key _ _ ?_ ?_ ?_ ?_ ?_ ?_
            · simp
            · simp
            · simp [h0, h1, h2, h3]
            · simp [DFlat.row, h0, h1, h2, h3]
            · simp [DFlat.row]
            · exact (by repeat (first | exact AS.Ext.refl _ | refine AS.Ext.kill (by simp) ?_ | refine AS.Ext.bump ?_ | refine AS.Ext.setBox (by simp) ?_))
        · simp [↓put_at, ↓AF.ev_tmp, ↓ex_cons, ↓ex_nil, ↓ex_fieldAddr, ↓ex_load, ↓ex_binOp, ↓ex_move, ↓ex_guard, ↓ex_pick, ↓AF.ev_bool, aFieldAddr, aload, partOf, aBin, aBinV, frame0, beq_bytes, int_bne, int_beq, DFlat.row, h0, h1, h2]
          refine key _ _ ?_ ?_ ?_ ?_ ?_ ?_
          · simp
          · simp
          · simp [h0, h1, h2]
          · simp [DFlat.row, h0, h1, h2]
          · simp [DFlat.row]
          · exact (by repeat (first | exact AS.Ext.refl _ | refine AS.Ext.kill (by simp) ?_ | refine AS.Ext.bump ?_ | refine AS.Ext.setBox (by simp) ?_))
      · simp [↓put_at, ↓AF.ev_tmp, ↓ex_cons, ↓ex_nil, ↓ex_fieldAddr, ↓ex_load, ↓ex_binOp, ↓ex_move, ↓ex_guard, ↓ex_pick, ↓AF.ev_bool, aFieldAddr, aload, partOf, aBin, aBinV, frame0, beq_bytes, int_bne, int_beq, DFlat.row, h0, h1]
        refine key _ _ ?_ ?_ ?_ ?_ ?_ ?_
        · simp
        · simp
        · simp [h0, h1]
        · simp [DFlat.row, h0, h1]
        · simp [DFlat.row]
        · exact (by repeat (first | exact AS.Ext.refl _ | refine AS.Ext.kill (by simp) ?_ | refine AS.Ext.bump ?_ | refine AS.Ext.setBox (by simp) ?_))
    · simp [↓put_at, ↓AF.ev_tmp, ↓ex_cons, ↓ex_nil, ↓ex_fieldAddr, ↓ex_load, ↓ex_binOp, ↓ex_move, ↓ex_guard, ↓ex_pick, ↓AF.ev_bool, aFieldAddr, aload, partOf, aBin, aBinV, frame0, beq_bytes, int_bne, int_beq, DFlat.row, h0]
      refine key _ _ ?_ ?_ ?_ ?_ ?_ ?_
      · simp
      · simp
      · simp [h0]
      · simp [DFlat.row, h0]
      · simp [DFlat.row]
      · exact (by repeat (first | exact AS.Ext.refl _ | refine AS.Ext.kill (by simp) ?_ | refine AS.Ext.bump ?_ | refine AS.Ext.setBox (by simp) ?_))
  intro F2 H2 f2 f3 fl b1 b2 hext
  refine hK2 _ _ ?_
  try clear hK2 K2
  refine T_cond (t := !decide (x.name = y.name ∧ x.what = y.what ∧ x.cells = y.cells ∧ x.base = y.base ∧ x.regs = y.regs ∧ x.slots = y.slots)) ?_ (fun c0 => ?_) (fun c0 => ?_)
  · simpa using fl
  · refine T_seqk fun K3 hK3 => ?_
    refine T_regionL ?_ ?_
    · kernel_rfl
    simp [↓put_at, ↓AF.ev_tmp, ↓ex_cons, ↓ex_nil, ↓ex_assign, ↓AF.ev_bool, frame0]
    refine hK3 _ _ ?_
    try clear hK3 K3
    refine T_ret ?_
    try simp only [thenK_ret, blockT_ret, loopT_ret]
    -- leaf 0: ret
    have c0 : ¬ (x.name = y.name ∧ x.what = y.what ∧ x.cells = y.cells ∧ x.base = y.base ∧ x.regs = y.regs ∧ x.slots = y.slots) := fun hp => by rw [decide_eq_true hp] at c0; simp at c0
    refine owes_one (.inr rfl) hwf rfl ?_ hext (by simp [Frozen]) (by simp [Below])
    simp [DFlat.ext_iff]
    intros; simp_all
  · refine T_skip ?_
    simp only [thenK_normal, blockT_normal, loopT_normal]
    refine hK1 _ _ ?_
    try clear hK1 K1
    refine T_seqk fun K4 hK4 => ?_
    refine T_regionL ?_ ?_
    · kernel_rfl
    suffices key : ∀ (F3 : AF), F3 4 = pb (decide (x.ops = y.ops ∧ x.loops = y.loops)) → K4 F3 H2 by
      by_cases h0 : x.ops = y.ops
      · by_cases h1 : x.loops = y.loops
        · simp [↓put_at, ↓AF.ev_tmp, ↓ex_cons, ↓ex_nil, ↓ex_fieldAddr, ↓ex_load, ↓ex_call, ↓AF.ev_func, ↓ex_move, ↓ex_guard, ↓ex_pick, ↓AF.ev_bool, ↓ex_assign, aFieldAddr, aload, partOf, frame0, beq_bytes, int_bne, int_beq, DFlat.row, f2, f3, fl, b1, b2]
          refine callK.of (eqOps _ c d x.ops y.ops hb1) ?_
          rintro _ _ ⟨rfl, rfl⟩
          simp [↓put_at, ↓AF.ev_tmp, ↓ex_cons, ↓ex_nil, ↓ex_fieldAddr, ↓ex_load, ↓ex_call, ↓AF.ev_func, ↓ex_move, ↓ex_guard, ↓ex_pick, ↓AF.ev_bool, ↓ex_assign, aFieldAddr, aload, partOf, frame0, beq_bytes, int_bne, int_beq, DFlat.row, f2, f3, fl, b1, b2, h0]
          refine callK.of (eqLoops _ c d x.loops y.loops hb2) ?_
          rintro _ _ ⟨rfl, rfl⟩
          simp [↓put_at, ↓AF.ev_tmp, ↓ex_cons, ↓ex_nil, ↓ex_fieldAddr, ↓ex_load, ↓ex_call, ↓AF.ev_func, ↓ex_move, ↓ex_guard, ↓ex_pick, ↓AF.ev_bool, ↓ex_assign, aFieldAddr, aload, partOf, frame0, beq_bytes, int_bne, int_beq, DFlat.row, f2, f3, fl, b1, b2, h0, h1]
          exact key _ (by simp [h0, h1])
        · simp [↓put_at, ↓AF.ev_tmp, ↓ex_cons, ↓ex_nil, ↓ex_fieldAddr, ↓ex_load, ↓ex_call, ↓AF.ev_func, ↓ex_move, ↓ex_guard, ↓ex_pick, ↓AF.ev_bool, ↓ex_assign, aFieldAddr, aload, partOf, frame0, beq_bytes, int_bne, int_beq, DFlat.row, f2, f3, fl, b1, b2]
          refine callK.of (eqOps _ c d x.ops y.ops hb1) ?_
          rintro _ _ ⟨rfl, rfl⟩
          simp [↓put_at, ↓AF.ev_tmp, ↓ex_cons, ↓ex_nil, ↓ex_fieldAddr, ↓ex_load, ↓ex_call, ↓AF.ev_func, ↓ex_move, ↓ex_guard, ↓ex_pick, ↓AF.ev_bool, ↓ex_assign, aFieldAddr, aload, partOf, frame0, beq_bytes, int_bne, int_beq, DFlat.row, f2, f3, fl, b1, b2, h0]
          refine callK.of (eqLoops _ c d x.loops y.loops hb2) ?_
          rintro _ _ ⟨rfl, rfl⟩
          simp [↓put_at, ↓AF.ev_tmp, ↓ex_cons, ↓ex_nil, ↓ex_fieldAddr, ↓ex_load, ↓ex_call, ↓AF.ev_func, ↓ex_move, ↓ex_guard, ↓ex_pick, ↓AF.ev_bool, ↓ex_assign, aFieldAddr, aload, partOf, frame0, beq_bytes, int_bne, int_beq, DFlat.row, f2, f3, fl, b1, b2, h0, h1]
          exact key _ (by simp [h0, h1])
      · simp [↓put_at, ↓AF.ev_tmp, ↓ex_cons, ↓ex_nil, ↓ex_fieldAddr, ↓ex_load, ↓ex_call, ↓AF.ev_func, ↓ex_move, ↓ex_guard, ↓ex_pick, ↓AF.ev_bool, ↓ex_assign, aFieldAddr, aload, partOf, frame0, beq_bytes, int_bne, int_beq, DFlat.row, f2, f3, fl, b1, b2]
        refine callK.of (eqOps _ c d x.ops y.ops hb1) ?_
        rintro _ _ ⟨rfl, rfl⟩
        simp [↓put_at, ↓AF.ev_tmp, ↓ex_cons, ↓ex_nil, ↓ex_fieldAddr, ↓ex_load, ↓ex_call, ↓AF.ev_func, ↓ex_move, ↓ex_guard, ↓ex_pick, ↓AF.ev_bool, ↓ex_assign, aFieldAddr, aload, partOf, frame0, beq_bytes, int_bne, int_beq, DFlat.row, f2, f3, fl, b1, b2, h0]
        exact key _ (by simp [h0])
    intro F3 f4
    refine hK4 _ _ ?_
    try clear hK4 K4
    refine T_ret ?_
    try simp only [thenK_ret, blockT_ret, loopT_ret]
    -- leaf 1: ret
    refine owes_one (.inr rfl) hwf rfl ?_ hext ?_ ?_
    · rw [f4]
      have c0 : x.name = y.name ∧ x.what = y.what ∧ x.cells = y.cells ∧ x.base = y.base ∧ x.regs = y.regs ∧ x.slots = y.slots := Decidable.byContradiction fun hp => by rw [decide_eq_false hp] at c0; simp at c0
      simp [DFlat.ext_iff]
      simp_all
    · rw [f4]; simp
    · rw [f4]; simp
set_option maxRecDepth 100000 in
theorem sameJob (H : AS) (c d : Nat) (x y : DJob) (hb1 : x.codes.length < 2 ^ 62) (hb2 : x.bases.length < 2 ^ 62) : ACalls Try.prog 14 [.agg (x.row c), .agg (y.row d)] H fun r H' => r = .val (.bool (decide (x = y))) ∧ H' = H := by
  refine ACalls_intro Try.func14 rfl (by kernel_rfl) (by simp) fun hwf hbel => ?_
  refine T_seqk fun K0 hK0 => ?_
  refine T_regionL ?_ ?_
  · kernel_rfl
  simp [↓put_at, ↓AF.ev_tmp, ↓ex_cons, ↓ex_nil, ↓ex_box, ↓ex_assign, ↓AF.ev_bool, abox, frame0]
  refine hK0 _ _ ?_
  try clear hK0 K0
  refine T_seqk fun K1 hK1 => ?_
  refine T_seqk fun K2 hK2 => ?_
  refine T_regionL ?_ ?_
  · kernel_rfl
  suffices key : ∀ (F2 : AF) (H2 : AS), F2 2 = .ptr H.next 1 0 0 → F2 3 = .ptr (H.next + 1) 1 0 0 → F2 37 = pb (!decide (x.name = y.name ∧ x.interval = y.interval ∧ x.single = y.single ∧ x.priority = y.priority ∧ x.bound = y.bound)) → H2.box H.next = some [x.row c] → H2.box (H.next + 1) = some [y.row d] → H.Ext H2 → K2 F2 H2 by
    by_cases h0 : x.name = y.name
    · by_cases h1 : x.interval = y.interval
      · by_cases h2 : x.single = y.single
        · by_cases h3 : x.priority = y.priority
          · by_cases h4 : x.bound = y.bound
            · simp [↓put_at, ↓AF.ev_tmp, ↓ex_cons, ↓ex_nil, ↓ex_fieldAddr, ↓ex_load, ↓ex_binOp, ↓ex_move, ↓ex_guard, ↓ex_pick, ↓AF.ev_bool, aFieldAddr, aload, partOf, aBin, aBinV, frame0, beq_bytes, int_bne, int_beq, DJob.row, h0, h1, h2, h3, h4]
              refine key _ _ ?_ ?_ ?_ ?_ ?_ ?_
              · simp
              · simp
              · simp [h0, h1, h2, h3, h4]
              · simp [DJob.row, h0, h1, h2, h3, h4]
              · simp [DJob.row]
              · exact (by repeat (first | exact AS.Ext.refl _ | refine AS.Ext.kill (by simp) ?_ | refine AS.Ext.bump ?_ | refine AS.Ext.setBox (by simp) ?_))
            · simp [↓put_at, ↓AF.ev_tmp, ↓ex_cons, ↓ex_nil, ↓ex_fieldAddr, ↓ex_load, ↓ex_binOp, ↓ex_move, ↓ex_guard, ↓ex_pick, ↓AF.ev_bool, aFieldAddr, aload, partOf, aBin, aBinV, frame0, beq_bytes, int_bne, int_beq, DJob.row, h0, h1, h2, h3, h4]
              refine key _ _ ?_ ?_ ?_ ?_ ?_ ?_
              · simp
              · simp
              · simp [h0, h1, h2, h3, h4]
              · simp [DJob.row, h0, h1, h2, h3, h4]
              · simp [DJob.row]
              · exact (by repeat (first | exact AS.Ext.refl _ | refine AS.Ext.kill (by simp) ?_ | refine AS.Ext.bump ?_ | refine AS.Ext.setBox (by simp) ?_))
          · simp [↓put_at, ↓AF.ev_tmp, ↓ex_cons, ↓ex_nil, ↓ex_fieldAddr, ↓ex_load, ↓ex_binOp, ↓ex_move, ↓ex_guard, ↓ex_pick, ↓AF.ev_bool, aFieldAddr, aload, partOf, aBin, aBinV, frame0, beq_bytes, int_bne, int_beq, DJob.row, h0, h1, h2, h3]
            refine key _ _ ?_ ?_ ?_ ?_ ?_ ?_
            · simp
            · simp
            · simp [h0, h1, h2, h3]
            · simp [DJob.row, h0, h1, h2, h3]
            · simp [DJob.row]
            · exact (by repeat (first | exact AS.Ext.refl _ | refine AS.Ext.kill (by simp) ?_ | refine AS.Ext.bump ?_ | refine AS.Ext.setBox (by simp) ?_))
        · simp [↓put_at, ↓AF.ev_tmp, ↓ex_cons, ↓ex_nil, ↓ex_fieldAddr, ↓ex_load, ↓ex_binOp, ↓ex_move, ↓ex_guard, ↓ex_pick, ↓AF.ev_bool, aFieldAddr, aload, partOf, aBin, aBinV, frame0, beq_bytes, int_bne, int_beq, DJob.row, h0, h1, h2]
          refine key _ _ ?_ ?_ ?_ ?_ ?_ ?_
          · simp
          · simp
          · simp [h0, h1, h2]
          · simp [DJob.row, h0, h1, h2]
          · simp [DJob.row]
          · exact (by repeat (first | exact AS.Ext.refl _ | refine AS.Ext.kill (by simp) ?_ | refine AS.Ext.bump ?_ | refine AS.Ext.setBox (by simp) ?_))
      · simp [↓put_at, ↓AF.ev_tmp, ↓ex_cons, ↓ex_nil, ↓ex_fieldAddr, ↓ex_load, ↓ex_binOp, ↓ex_move, ↓ex_guard, ↓ex_pick, ↓AF.ev_bool, aFieldAddr, aload, partOf, aBin, aBinV, frame0, beq_bytes, int_bne, int_beq, DJob.row, h0, h1]
        refine key _ _ ?_ ?_ ?_ ?_ ?_ ?_
        · simp
        · simp
        · simp [h0, h1]
        · simp [DJob.row, h0, h1]
        · simp [DJob.row]
        · exact (by repeat (first | exact AS.Ext.refl _ | refine AS.Ext.kill (by simp) ?_ | refine AS.Ext.bump ?_ | refine AS.Ext.setBox (by simp) ?_))
    · simp [↓put_at, ↓AF.ev_tmp, ↓ex_cons, ↓ex_nil, ↓ex_fieldAddr, ↓ex_load, ↓ex_binOp, ↓ex_move, ↓ex_guard, ↓ex_pick, ↓AF.ev_bool, aFieldAddr, aload, partOf, aBin, aBinV, frame0, beq_bytes, int_bne, int_beq, DJob.row, h0]
      refine key _ _ ?_ ?_ ?_ ?_ ?_ ?_
      · simp
      · simp
      · simp [h0]
      · simp [DJob.row, h0]
      · simp [DJob.row]
      · exact (by repeat (first | exact AS.Ext.refl _ | refine AS.Ext.kill (by simp) ?_ | refine AS.Ext.bump ?_ | refine AS.Ext.setBox (by simp) ?_))
  intro F2 H2 f2 f3 fl b1 b2 hext
  refine hK2 _ _ ?_
  try clear hK2 K2
  refine T_cond (t := !decide (x.name = y.name ∧ x.interval = y.interval ∧ x.single = y.single ∧ x.priority = y.priority ∧ x.bound = y.bound)) ?_ (fun c0 => ?_) (fun c0 => ?_)
  · simpa using fl
  · refine T_seqk fun K3 hK3 => ?_
    refine T_regionL ?_ ?_
    · kernel_rfl
    simp [↓put_at, ↓AF.ev_tmp, ↓ex_cons, ↓ex_nil, ↓ex_assign, ↓AF.ev_bool, frame0]
    refine hK3 _ _ ?_
    try clear hK3 K3
    refine T_ret ?_
    try simp only [thenK_ret, blockT_ret, loopT_ret]
    -- leaf 0: ret
    have c0 : ¬ (x.name = y.name ∧ x.interval = y.interval ∧ x.single = y.single ∧ x.priority = y.priority ∧ x.bound = y.bound) := fun hp => by rw [decide_eq_true hp] at c0; simp at c0
    refine owes_one (.inr rfl) hwf rfl ?_ hext (by simp [Frozen]) (by simp [Below])
    simp [DJob.ext_iff]
    intros; simp_all
  · refine T_skip ?_
    simp only [thenK_normal, blockT_normal, loopT_normal]
    refine hK1 _ _ ?_
    try clear hK1 K1
    refine T_seqk fun K4 hK4 => ?_
    refine T_regionL ?_ ?_
    · kernel_rfl
    suffices key : ∀ (F3 : AF), F3 4 = pb (decide (x.codes = y.codes ∧ x.bases = y.bases)) → K4 F3 H2 by
      by_cases h0 : x.codes = y.codes
      · by_cases h1 : x.bases = y.bases
        · simp [↓put_at, ↓AF.ev_tmp, ↓ex_cons, ↓ex_nil, ↓ex_fieldAddr, ↓ex_load, ↓ex_call, ↓AF.ev_func, ↓ex_move, ↓ex_guard, ↓ex_pick, ↓AF.ev_bool, ↓ex_assign, aFieldAddr, aload, partOf, frame0, beq_bytes, int_bne, int_beq, DJob.row, f2, f3, fl, b1, b2]
          refine callK.of (eqInts _ c d x.codes y.codes hb1) ?_
          rintro _ _ ⟨rfl, rfl⟩
          simp [↓put_at, ↓AF.ev_tmp, ↓ex_cons, ↓ex_nil, ↓ex_fieldAddr, ↓ex_load, ↓ex_call, ↓AF.ev_func, ↓ex_move, ↓ex_guard, ↓ex_pick, ↓AF.ev_bool, ↓ex_assign, aFieldAddr, aload, partOf, frame0, beq_bytes, int_bne, int_beq, DJob.row, f2, f3, fl, b1, b2, h0]
          refine callK.of (eqInts _ c d x.bases y.bases hb2) ?_
          rintro _ _ ⟨rfl, rfl⟩
          simp [↓put_at, ↓AF.ev_tmp, ↓ex_cons, ↓ex_nil, ↓ex_fieldAddr, ↓ex_load, ↓ex_call, ↓AF.ev_func, ↓ex_move, ↓ex_guard, ↓ex_pick, ↓AF.ev_bool, ↓ex_assign, aFieldAddr, aload, partOf, frame0, beq_bytes, int_bne, int_beq, DJob.row, f2, f3, fl, b1, b2, h0, h1]
          exact key _ (by simp [h0, h1])
        · simp [↓put_at, ↓AF.ev_tmp, ↓ex_cons, ↓ex_nil, ↓ex_fieldAddr, ↓ex_load, ↓ex_call, ↓AF.ev_func, ↓ex_move, ↓ex_guard, ↓ex_pick, ↓AF.ev_bool, ↓ex_assign, aFieldAddr, aload, partOf, frame0, beq_bytes, int_bne, int_beq, DJob.row, f2, f3, fl, b1, b2]
          refine callK.of (eqInts _ c d x.codes y.codes hb1) ?_
          rintro _ _ ⟨rfl, rfl⟩
          simp [↓put_at, ↓AF.ev_tmp, ↓ex_cons, ↓ex_nil, ↓ex_fieldAddr, ↓ex_load, ↓ex_call, ↓AF.ev_func, ↓ex_move, ↓ex_guard, ↓ex_pick, ↓AF.ev_bool, ↓ex_assign, aFieldAddr, aload, partOf, frame0, beq_bytes, int_bne, int_beq, DJob.row, f2, f3, fl, b1, b2, h0]
          refine callK.of (eqInts _ c d x.bases y.bases hb2) ?_
          rintro _ _ ⟨rfl, rfl⟩
          simp [↓put_at, ↓AF.ev_tmp, ↓ex_cons, ↓ex_nil, ↓ex_fieldAddr, ↓ex_load, ↓ex_call, ↓AF.ev_func, ↓ex_move, ↓ex_guard, ↓ex_pick, ↓AF.ev_bool, ↓ex_assign, aFieldAddr, aload, partOf, frame0, beq_bytes, int_bne, int_beq, DJob.row, f2, f3, fl, b1, b2, h0, h1]
          exact key _ (by simp [h0, h1])
      · simp [↓put_at, ↓AF.ev_tmp, ↓ex_cons, ↓ex_nil, ↓ex_fieldAddr, ↓ex_load, ↓ex_call, ↓AF.ev_func, ↓ex_move, ↓ex_guard, ↓ex_pick, ↓AF.ev_bool, ↓ex_assign, aFieldAddr, aload, partOf, frame0, beq_bytes, int_bne, int_beq, DJob.row, f2, f3, fl, b1, b2]
        refine callK.of (eqInts _ c d x.codes y.codes hb1) ?_
        rintro _ _ ⟨rfl, rfl⟩
        simp [↓put_at, ↓AF.ev_tmp, ↓ex_cons, ↓ex_nil, ↓ex_fieldAddr, ↓ex_load, ↓ex_call, ↓AF.ev_func, ↓ex_move, ↓ex_guard, ↓ex_pick, ↓AF.ev_bool, ↓ex_assign, aFieldAddr, aload, partOf, frame0, beq_bytes, int_bne, int_beq, DJob.row, f2, f3, fl, b1, b2, h0]
        exact key _ (by simp [h0])
    intro F3 f4
    refine hK4 _ _ ?_
    try clear hK4 K4
    refine T_ret ?_
    try simp only [thenK_ret, blockT_ret, loopT_ret]
    -- leaf 1: ret
    refine owes_one (.inr rfl) hwf rfl ?_ hext ?_ ?_
    · rw [f4]
      have c0 : x.name = y.name ∧ x.interval = y.interval ∧ x.single = y.single ∧ x.priority = y.priority ∧ x.bound = y.bound := Decidable.byContradiction fun hp => by rw [decide_eq_false hp] at c0; simp at c0
      simp [DJob.ext_iff]
      simp_all
    · rw [f4]; simp
    · rw [f4]; simp
set_option maxRecDepth 100000 in
theorem sameJobP (H : AS) (c d : Nat) (x y : DJob) (hb1 : x.codes.length < 2 ^ 62) (hb2 : x.bases.length < 2 ^ 62) : ACalls Try.prog 16 [.agg (x.row c), .agg (y.row d)] H fun r H' => r = .val (.bool (decide (x = y))) ∧ H' = H := by
  refine ACalls_intro Try.func16 rfl (by kernel_rfl) (by simp) fun hwf hbel => ?_
  refine T_seqk fun K0 hK0 => ?_
  refine T_regionL ?_ ?_
  · kernel_rfl
  simp [↓put_at, ↓AF.ev_tmp, ↓ex_cons, ↓ex_nil, ↓ex_box, ↓ex_assign, ↓AF.ev_bool, abox, frame0]
  refine hK0 _ _ ?_
  try clear hK0 K0
  refine T_seqk fun K1 hK1 => ?_
  refine T_regionL ?_ ?_
  · kernel_rfl
  suffices key : ∀ (F2 : AF) (H2 : AS), F2 4 = pb (decide (x.name = y.name ∧ x.interval = y.interval ∧ x.single = y.single ∧ x.priority = y.priority ∧ x.bound = y.bound ∧ x.codes = y.codes ∧ x.bases = y.bases)) → H.Ext H2 → K1 F2 H2 by
    by_cases h0 : x.name = y.name
    · by_cases h1 : x.interval = y.interval
      · by_cases h2 : x.single = y.single
        · by_cases h3 : x.priority = y.priority
          · by_cases h4 : x.bound = y.bound
            · by_cases h5 : x.codes = y.codes
              · by_cases h6 : x.bases = y.bases
                · simp [↓put_at, ↓AF.ev_tmp, ↓ex_cons, ↓ex_nil, ↓ex_fieldAddr, ↓ex_load, ↓ex_binOp, ↓ex_move, ↓ex_guard, ↓ex_pick, ↓AF.ev_bool, ↓ex_call, ↓AF.ev_func, ↓ex_assign, aFieldAddr, aload, partOf, aBin, aBinV, frame0, beq_bytes, int_bne, int_beq, DJob.row, h0, h1, h2, h3, h4]
                  refine callK.of (eqInts _ c d x.codes y.codes hb1) ?_
                  rintro _ _ ⟨rfl, rfl⟩
                  simp [↓put_at, ↓AF.ev_tmp, ↓ex_cons, ↓ex_nil, ↓ex_fieldAddr, ↓ex_load, ↓ex_binOp, ↓ex_move, ↓ex_guard, ↓ex_pick, ↓AF.ev_bool, ↓ex_call, ↓AF.ev_func, ↓ex_assign, aFieldAddr, aload, partOf, aBin, aBinV, frame0, beq_bytes, int_bne, int_beq, DJob.row, h0, h1, h2, h3, h4, h5]
                  refine callK.of (eqInts _ c d x.bases y.bases hb2) ?_
                  rintro _ _ ⟨rfl, rfl⟩
                  simp [↓put_at, ↓AF.ev_tmp, ↓ex_cons, ↓ex_nil, ↓ex_fieldAddr, ↓ex_load, ↓ex_binOp, ↓ex_move, ↓ex_guard, ↓ex_pick, ↓AF.ev_bool, ↓ex_call, ↓AF.ev_func, ↓ex_assign, aFieldAddr, aload, partOf, aBin, aBinV, frame0, beq_bytes, int_bne, int_beq, DJob.row, h0, h1, h2, h3, h4, h5, h6]
                  exact key _ _ (by simp [h0, h1, h2, h3, h4, h5, h6]) (by repeat (first | exact AS.Ext.refl _ | refine AS.Ext.kill (by simp) ?_ | refine AS.Ext.bump ?_ | refine AS.Ext.setBox (by simp) ?_))
                · simp [↓put_at, ↓AF.ev_tmp, ↓ex_cons, ↓ex_nil, ↓ex_fieldAddr, ↓ex_load, ↓ex_binOp, ↓ex_move, ↓ex_guard, ↓ex_pick, ↓AF.ev_bool, ↓ex_call, ↓AF.ev_func, ↓ex_assign, aFieldAddr, aload, partOf, aBin, aBinV, frame0, beq_bytes, int_bne, int_beq, DJob.row, h0, h1, h2, h3, h4]
                  refine callK.of (eqInts _ c d x.codes y.codes hb1) ?_
                  rintro _ _ ⟨rfl, rfl⟩
                  simp [↓put_at, ↓AF.ev_tmp, ↓ex_cons, ↓ex_nil, ↓ex_fieldAddr, ↓ex_load, ↓ex_binOp, ↓ex_move, ↓ex_guard, ↓ex_pick, ↓AF.ev_bool, ↓ex_call, ↓AF.ev_func, ↓ex_assign, aFieldAddr, aload, partOf, aBin, aBinV, frame0, beq_bytes, int_bne, int_beq, DJob.row, h0, h1, h2, h3, h4, h5]
                  refine callK.of (eqInts _ c d x.bases y.bases hb2) ?_
                  rintro _ _ ⟨rfl, rfl⟩
                  simp [↓put_at, ↓AF.ev_tmp, ↓ex_cons, ↓ex_nil, ↓ex_fieldAddr, ↓ex_load, ↓ex_binOp, ↓ex_move, ↓ex_guard, ↓ex_pick, ↓AF.ev_bool, ↓ex_call, ↓AF.ev_func, ↓ex_assign, aFieldAddr, aload, partOf, aBin, aBinV, frame0, beq_bytes, int_bne, int_beq, DJob.row, h0, h1, h2, h3, h4, h5, h6]
                  exact key _ _ (by simp [h0, h1, h2, h3, h4, h5, h6]) (by repeat (first | exact AS.Ext.refl _ | refine AS.Ext.kill (by simp) ?_ | refine AS.Ext.bump ?_ | refine AS.Ext.setBox (by simp) ?_))
              · simp [↓put_at, ↓AF.ev_tmp, ↓ex_cons, ↓ex_nil, ↓ex_fieldAddr, ↓ex_load, ↓ex_binOp, ↓ex_move, ↓ex_guard, ↓ex_pick, ↓AF.ev_bool, ↓ex_call, ↓AF.ev_func, ↓ex_assign, aFieldAddr, aload, partOf, aBin, aBinV, frame0, beq_bytes, int_bne, int_beq, DJob.row, h0, h1, h2, h3, h4]
                refine callK.of (eqInts _ c d x.codes y.codes hb1) ?_
                rintro _ _ ⟨rfl, rfl⟩
                simp [↓put_at, ↓AF.ev_tmp, ↓ex_cons, ↓ex_nil, ↓ex_fieldAddr, ↓ex_load, ↓ex_binOp, ↓ex_move, ↓ex_guard, ↓ex_pick, ↓AF.ev_bool, ↓ex_call, ↓AF.ev_func, ↓ex_assign, aFieldAddr, aload, partOf, aBin, aBinV, frame0, beq_bytes, int_bne, int_beq, DJob.row, h0, h1, h2, h3, h4, h5]
                exact key _ _ (by simp [h0, h1, h2, h3, h4, h5]) (by repeat (first | exact AS.Ext.refl _ | refine AS.Ext.kill (by simp) ?_ | refine AS.Ext.bump ?_ | refine AS.Ext.setBox (by simp) ?_))
            · simp [↓put_at, ↓AF.ev_tmp, ↓ex_cons, ↓ex_nil, ↓ex_fieldAddr, ↓ex_load, ↓ex_binOp, ↓ex_move, ↓ex_guard, ↓ex_pick, ↓AF.ev_bool, ↓ex_call, ↓AF.ev_func, ↓ex_assign, aFieldAddr, aload, partOf, aBin, aBinV, frame0, beq_bytes, int_bne, int_beq, DJob.row, h0, h1, h2, h3, h4]
              exact key _ _ (by simp [h0, h1, h2, h3, h4]) (by repeat (first | exact AS.Ext.refl _ | refine AS.Ext.kill (by simp) ?_ | refine AS.Ext.bump ?_ | refine AS.Ext.setBox (by simp) ?_))
          · simp [↓put_at, ↓AF.ev_tmp, ↓ex_cons, ↓ex_nil, ↓ex_fieldAddr, ↓ex_load, ↓ex_binOp, ↓ex_move, ↓ex_guard, ↓ex_pick, ↓AF.ev_bool, ↓ex_call, ↓AF.ev_func, ↓ex_assign, aFieldAddr, aload, partOf, aBin, aBinV, frame0, beq_bytes, int_bne, int_beq, DJob.row, h0, h1, h2, h3]
            exact key _ _ (by simp [h0, h1, h2, h3]) (by repeat (first | exact AS.Ext.refl _ | refine AS.Ext.kill (by simp) ?_ | refine AS.Ext.bump ?_ | refine AS.Ext.setBox (by simp) ?_))
        · simp [↓put_at, ↓AF.ev_tmp, ↓ex_cons, ↓ex_nil, ↓ex_fieldAddr, ↓ex_load, ↓ex_binOp, ↓ex_move, ↓ex_guard, ↓ex_pick, ↓AF.ev_bool, ↓ex_call, ↓AF.ev_func, ↓ex_assign, aFieldAddr, aload, partOf, aBin, aBinV, frame0, beq_bytes, int_bne, int_beq, DJob.row, h0, h1, h2]
          exact key _ _ (by simp [h0, h1, h2]) (by repeat (first | exact AS.Ext.refl _ | refine AS.Ext.kill (by simp) ?_ | refine AS.Ext.bump ?_ | refine AS.Ext.setBox (by simp) ?_))
      · simp [↓put_at, ↓AF.ev_tmp, ↓ex_cons, ↓ex_nil, ↓ex_fieldAddr, ↓ex_load, ↓ex_binOp, ↓ex_move, ↓ex_guard, ↓ex_pick, ↓AF.ev_bool, ↓ex_call, ↓AF.ev_func, ↓ex_assign, aFieldAddr, aload, partOf, aBin, aBinV, frame0, beq_bytes, int_bne, int_beq, DJob.row, h0, h1]
        exact key _ _ (by simp [h0, h1]) (by repeat (first | exact AS.Ext.refl _ | refine AS.Ext.kill (by simp) ?_ | refine AS.Ext.bump ?_ | refine AS.Ext.setBox (by simp) ?_))
    · simp [↓put_at, ↓AF.ev_tmp, ↓ex_cons, ↓ex_nil, ↓ex_fieldAddr, ↓ex_load, ↓ex_binOp, ↓ex_move, ↓ex_guard, ↓ex_pick, ↓AF.ev_bool, ↓ex_call, ↓AF.ev_func, ↓ex_assign, aFieldAddr, aload, partOf, aBin, aBinV, frame0, beq_bytes, int_bne, int_beq, DJob.row, h0]
      exact key _ _ (by simp [h0]) (by repeat (first | exact AS.Ext.refl _ | refine AS.Ext.kill (by simp) ?_ | refine AS.Ext.bump ?_ | refine AS.Ext.setBox (by simp) ?_))
  intro F2 H2 f4 hext
  refine hK1 _ _ ?_
  try clear hK1 K1
  refine T_ret ?_
  try simp only [thenK_ret, blockT_ret, loopT_ret]
  -- leaf 0: ret
  refine owes_one (.inr rfl) hwf rfl ?_ hext ?_ ?_
  · rw [f4]
    exact congrArg (fun b => PV.val (.bool b)) (decide_eq_decide.mpr ⟨fun h => by rw [DJob.ext_iff]; simp_all, fun h => by subst h; simp⟩)
  · rw [f4]; simp
  · rw [f4]; simp
end Go.Abs
