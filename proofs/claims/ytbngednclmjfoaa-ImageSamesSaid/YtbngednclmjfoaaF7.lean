import Derived.Test.YtbngednclmjfoaaF6
namespace Go.Abs
open Go.Proofs
set_option autoImplicit false
set_option linter.all false
theorem part_jobs (c : Nat) (x : DImage) : partOf Try.prog 24 (x.row c) 3 = some (PV.sl c 7 (x.jobs.map (DJob.row c))) := by simp [partOf, DImage.row]
set_option maxRecDepth 100000 in
theorem sameImages (H : AS) (c d : Nat) (x y : DImage) (hx : x.Small) : ACalls Try.prog 5 [.agg (x.row c), .agg (y.row d)] H fun r H' => r = .val (.bool (decide (x = y))) ∧ H' = H := by
  refine ACalls_intro Try.func5 rfl (by kernel_rfl) (by simp) fun hwf hbel => ?_
  obtain ⟨hx1, hx2, hx3, hx4, hx5⟩ := hx
  refine T_seqk fun K0 hK0 => ?_
  refine T_regionL ?_ ?_
  · kernel_rfl
  simp [↓put_at, ↓AF.ev_tmp, ↓ex_cons, ↓ex_nil, ↓ex_box, ↓ex_assign, ↓AF.ev_bool, abox, frame0]
  refine hK0 _ _ ?_
  try clear hK0 K0
  refine T_seqk fun K1 hK1 => ?_
  refine T_regionL ?_ ?_
  · kernel_rfl
  suffices key : ∀ (F2 : AF) (H2 : AS), F2 4 = pb (decide (x.name = y.name ∧ x.cells = y.cells ∧ x.codes = y.codes ∧ x.jobs = y.jobs)) → H.Ext H2 → K1 F2 H2 by
    by_cases h0 : x.name = y.name
    · by_cases h1 : x.cells = y.cells
      · by_cases h2 : x.codes = y.codes
        · by_cases h3 : x.jobs = y.jobs
          · simp [↓put_at, ↓AF.ev_tmp, ↓ex_cons, ↓ex_nil, ↓ex_fieldAddr, ↓ex_load, ↓ex_binOp, ↓ex_move, ↓ex_guard, ↓ex_call, ↓AF.ev_func, ↓ex_pick, ↓AF.ev_bool, ↓ex_assign, aFieldAddr, aload, partOf, aBin, aBinV, frame0, beq_bytes, int_bne, int_beq, DImage.row, h0]
            refine callK.of (eqCells _ c d x.cells y.cells (by omega)) ?_
            rintro _ _ ⟨rfl, rfl⟩
            simp [↓put_at, ↓AF.ev_tmp, ↓ex_cons, ↓ex_nil, ↓ex_fieldAddr, ↓ex_load, ↓ex_binOp, ↓ex_move, ↓ex_guard, ↓ex_call, ↓AF.ev_func, ↓ex_pick, ↓AF.ev_bool, ↓ex_assign, aFieldAddr, aload, partOf, aBin, aBinV, frame0, beq_bytes, int_bne, int_beq, DImage.row, h0, h1]
            refine callK.of (equalCodes _ c d x.codes y.codes (by omega) hx4) ?_
            rintro _ _ ⟨rfl, rfl⟩
            simp [↓put_at, ↓AF.ev_tmp, ↓ex_cons, ↓ex_nil, ↓ex_fieldAddr, ↓ex_load, ↓ex_binOp, ↓ex_move, ↓ex_guard, ↓ex_call, ↓AF.ev_func, ↓ex_pick, ↓AF.ev_bool, ↓ex_assign, aFieldAddr, aload, partOf, aBin, aBinV, frame0, beq_bytes, int_bne, int_beq, DImage.row, h0, h1, h2]
            refine callK.of (equalJobs _ c d x.jobs y.jobs (by omega) hx5) ?_
            rintro _ _ ⟨rfl, rfl⟩
            simp [↓put_at, ↓AF.ev_tmp, ↓ex_cons, ↓ex_nil, ↓ex_fieldAddr, ↓ex_load, ↓ex_binOp, ↓ex_move, ↓ex_guard, ↓ex_call, ↓AF.ev_func, ↓ex_pick, ↓AF.ev_bool, ↓ex_assign, aFieldAddr, aload, partOf, aBin, aBinV, frame0, beq_bytes, int_bne, int_beq, DImage.row, h0, h1, h2, h3]
            exact key _ _ (by simp [h0, h1, h2, h3]) (by repeat (first | exact AS.Ext.refl _ | refine AS.Ext.kill (by simp) ?_ | refine AS.Ext.bump ?_ | refine AS.Ext.setBox (by simp) ?_))
          · simp [↓put_at, ↓AF.ev_tmp, ↓ex_cons, ↓ex_nil, ↓ex_fieldAddr, ↓ex_load, ↓ex_binOp, ↓ex_move, ↓ex_guard, ↓ex_call, ↓AF.ev_func, ↓ex_pick, ↓AF.ev_bool, ↓ex_assign, aFieldAddr, aload, partOf, aBin, aBinV, frame0, beq_bytes, int_bne, int_beq, DImage.row, h0]
            refine callK.of (eqCells _ c d x.cells y.cells (by omega)) ?_
            rintro _ _ ⟨rfl, rfl⟩
            simp [↓put_at, ↓AF.ev_tmp, ↓ex_cons, ↓ex_nil, ↓ex_fieldAddr, ↓ex_load, ↓ex_binOp, ↓ex_move, ↓ex_guard, ↓ex_call, ↓AF.ev_func, ↓ex_pick, ↓AF.ev_bool, ↓ex_assign, aFieldAddr, aload, partOf, aBin, aBinV, frame0, beq_bytes, int_bne, int_beq, DImage.row, h0, h1]
            refine callK.of (equalCodes _ c d x.codes y.codes (by omega) hx4) ?_
            rintro _ _ ⟨rfl, rfl⟩
            simp [↓put_at, ↓AF.ev_tmp, ↓ex_cons, ↓ex_nil, ↓ex_fieldAddr, ↓ex_load, ↓ex_binOp, ↓ex_move, ↓ex_guard, ↓ex_call, ↓AF.ev_func, ↓ex_pick, ↓AF.ev_bool, ↓ex_assign, aFieldAddr, aload, partOf, aBin, aBinV, frame0, beq_bytes, int_bne, int_beq, DImage.row, h0, h1, h2]
            refine callK.of (equalJobs _ c d x.jobs y.jobs (by omega) hx5) ?_
            rintro _ _ ⟨rfl, rfl⟩
            simp [↓put_at, ↓AF.ev_tmp, ↓ex_cons, ↓ex_nil, ↓ex_fieldAddr, ↓ex_load, ↓ex_binOp, ↓ex_move, ↓ex_guard, ↓ex_call, ↓AF.ev_func, ↓ex_pick, ↓AF.ev_bool, ↓ex_assign, aFieldAddr, aload, partOf, aBin, aBinV, frame0, beq_bytes, int_bne, int_beq, DImage.row, h0, h1, h2, h3]
            exact key _ _ (by simp [h0, h1, h2, h3]) (by repeat (first | exact AS.Ext.refl _ | refine AS.Ext.kill (by simp) ?_ | refine AS.Ext.bump ?_ | refine AS.Ext.setBox (by simp) ?_))
        · simp [↓put_at, ↓AF.ev_tmp, ↓ex_cons, ↓ex_nil, ↓ex_fieldAddr, ↓ex_load, ↓ex_binOp, ↓ex_move, ↓ex_guard, ↓ex_call, ↓AF.ev_func, ↓ex_pick, ↓AF.ev_bool, ↓ex_assign, aFieldAddr, aload, partOf, aBin, aBinV, frame0, beq_bytes, int_bne, int_beq, DImage.row, h0]
          refine callK.of (eqCells _ c d x.cells y.cells (by omega)) ?_
          rintro _ _ ⟨rfl, rfl⟩
          simp [↓put_at, ↓AF.ev_tmp, ↓ex_cons, ↓ex_nil, ↓ex_fieldAddr, ↓ex_load, ↓ex_binOp, ↓ex_move, ↓ex_guard, ↓ex_call, ↓AF.ev_func, ↓ex_pick, ↓AF.ev_bool, ↓ex_assign, aFieldAddr, aload, partOf, aBin, aBinV, frame0, beq_bytes, int_bne, int_beq, DImage.row, h0, h1]
          refine callK.of (equalCodes _ c d x.codes y.codes (by omega) hx4) ?_
          rintro _ _ ⟨rfl, rfl⟩
          simp [↓put_at, ↓AF.ev_tmp, ↓ex_cons, ↓ex_nil, ↓ex_fieldAddr, ↓ex_load, ↓ex_binOp, ↓ex_move, ↓ex_guard, ↓ex_call, ↓AF.ev_func, ↓ex_pick, ↓AF.ev_bool, ↓ex_assign, aFieldAddr, aload, partOf, aBin, aBinV, frame0, beq_bytes, int_bne, int_beq, DImage.row, h0, h1, h2]
          exact key _ _ (by simp [h0, h1, h2]) (by repeat (first | exact AS.Ext.refl _ | refine AS.Ext.kill (by simp) ?_ | refine AS.Ext.bump ?_ | refine AS.Ext.setBox (by simp) ?_))
      · simp [↓put_at, ↓AF.ev_tmp, ↓ex_cons, ↓ex_nil, ↓ex_fieldAddr, ↓ex_load, ↓ex_binOp, ↓ex_move, ↓ex_guard, ↓ex_call, ↓AF.ev_func, ↓ex_pick, ↓AF.ev_bool, ↓ex_assign, aFieldAddr, aload, partOf, aBin, aBinV, frame0, beq_bytes, int_bne, int_beq, DImage.row, h0]
        refine callK.of (eqCells _ c d x.cells y.cells (by omega)) ?_
        rintro _ _ ⟨rfl, rfl⟩
        simp [↓put_at, ↓AF.ev_tmp, ↓ex_cons, ↓ex_nil, ↓ex_fieldAddr, ↓ex_load, ↓ex_binOp, ↓ex_move, ↓ex_guard, ↓ex_call, ↓AF.ev_func, ↓ex_pick, ↓AF.ev_bool, ↓ex_assign, aFieldAddr, aload, partOf, aBin, aBinV, frame0, beq_bytes, int_bne, int_beq, DImage.row, h0, h1]
        exact key _ _ (by simp [h0, h1]) (by repeat (first | exact AS.Ext.refl _ | refine AS.Ext.kill (by simp) ?_ | refine AS.Ext.bump ?_ | refine AS.Ext.setBox (by simp) ?_))
    · simp [↓put_at, ↓AF.ev_tmp, ↓ex_cons, ↓ex_nil, ↓ex_fieldAddr, ↓ex_load, ↓ex_binOp, ↓ex_move, ↓ex_guard, ↓ex_call, ↓AF.ev_func, ↓ex_pick, ↓AF.ev_bool, ↓ex_assign, aFieldAddr, aload, partOf, aBin, aBinV, frame0, beq_bytes, int_bne, int_beq, DImage.row, h0]
      exact key _ _ (by simp [h0]) (by repeat (first | exact AS.Ext.refl _ | refine AS.Ext.kill (by simp) ?_ | refine AS.Ext.bump ?_ | refine AS.Ext.setBox (by simp) ?_))
  intro F2 H2 f4 hext
  refine hK1 _ _ ?_
  try clear hK1 K1
  refine T_ret ?_
  try simp only [thenK_ret, blockT_ret, loopT_ret]
  -- leaf 0: ret
  refine owes_one (.inr rfl) hwf rfl ?_ hext ?_ ?_
  · rw [f4]
    exact congrArg (fun b => PV.val (.bool b)) (decide_eq_decide.mpr ⟨fun h => by rw [DImage.ext_iff]; simp_all, fun h => by subst h; simp⟩)
  · rw [f4]; simp
  · rw [f4]; simp
set_option maxRecDepth 100000 in
theorem sameImageP (H : AS) (c d : Nat) (x y : DImage) (hx : x.Small) : ACalls Try.prog 6 [.agg (x.row c), .agg (y.row d)] H fun r H' => r = .val (.bool (decide (x = y))) ∧ H' = H := by
  refine ACalls_intro Try.func6 rfl (by kernel_rfl) (by simp) fun hwf hbel => ?_
  obtain ⟨hx1, hx2, hx3, hx4, hx5⟩ := hx
  refine T_seqk fun K0 hK0 => ?_
  refine T_regionL ?_ ?_
  · kernel_rfl
  simp [↓put_at, ↓AF.ev_tmp, ↓ex_cons, ↓ex_nil, ↓ex_box, ↓ex_assign, ↓AF.ev_bool, abox, frame0]
  refine hK0 _ _ ?_
  try clear hK0 K0
  refine T_seqk fun K1 hK1 => ?_
  refine T_seqk fun K2 hK2 => ?_
  refine T_regionL ?_ ?_
  · kernel_rfl
  suffices key : ∀ (F2 : AF) (H2 : AS), F2 2 = .ptr H.next 1 0 0 → F2 3 = .ptr (H.next + 1) 1 0 0 → F2 35 = pb (!decide (x.name = y.name ∧ x.cells = y.cells ∧ x.codes = y.codes ∧ x.jobs.length = y.jobs.length)) → H2.box H.next = some [x.row c] → H2.box (H.next + 1) = some [y.row d] → H.Ext H2 → K2 F2 H2 by
    by_cases h0 : x.name = y.name
    · by_cases h1 : x.cells = y.cells
      · by_cases h2 : x.codes = y.codes
        · by_cases h3 : x.jobs.length = y.jobs.length
          · simp [↓put_at, ↓AF.ev_tmp, ↓ex_cons, ↓ex_nil, ↓ex_fieldAddr, ↓ex_load, ↓ex_binOp, ↓ex_move, ↓ex_guard, ↓ex_call, ↓AF.ev_func, ↓ex_unOp, ↓ex_pick, ↓AF.ev_bool, ↓ex_len, aFieldAddr, aload, partOf, aBin, aBinV, aUn, aLen, frame0, beq_bytes, int_bne, int_beq, DImage.row, int_bne, Int.natCast_inj, Int.ofNat_inj, h0]
            refine callK.of (eqCells _ c d x.cells y.cells (by omega)) ?_
            rintro _ _ ⟨rfl, rfl⟩
            simp [↓put_at, ↓AF.ev_tmp, ↓ex_cons, ↓ex_nil, ↓ex_fieldAddr, ↓ex_load, ↓ex_binOp, ↓ex_move, ↓ex_guard, ↓ex_call, ↓AF.ev_func, ↓ex_unOp, ↓ex_pick, ↓AF.ev_bool, ↓ex_len, aFieldAddr, aload, partOf, aBin, aBinV, aUn, aLen, frame0, beq_bytes, int_bne, int_beq, DImage.row, int_bne, Int.natCast_inj, Int.ofNat_inj, h0, h1]
            refine callK.of (sameFlats _ c d x.codes y.codes (by omega) hx4) ?_
            rintro _ _ ⟨rfl, rfl⟩
            simp [↓put_at, ↓AF.ev_tmp, ↓ex_cons, ↓ex_nil, ↓ex_fieldAddr, ↓ex_load, ↓ex_binOp, ↓ex_move, ↓ex_guard, ↓ex_call, ↓AF.ev_func, ↓ex_unOp, ↓ex_pick, ↓AF.ev_bool, ↓ex_len, aFieldAddr, aload, partOf, aBin, aBinV, aUn, aLen, frame0, beq_bytes, int_bne, int_beq, DImage.row, int_bne, Int.natCast_inj, Int.ofNat_inj, h0, h1, h2, h3]
            refine key _ _ ?_ ?_ ?_ ?_ ?_ ?_
            · simp
            · simp
            · simp [h0, h1, h2, h3]
            · simp [DImage.row, h0, h1, h2, h3]
            · simp [DImage.row]
            · exact (by repeat (first | exact AS.Ext.refl _ | refine AS.Ext.kill (by simp) ?_ | refine AS.Ext.bump ?_ | refine AS.Ext.setBox (by simp) ?_))
          · simp [↓put_at, ↓AF.ev_tmp, ↓ex_cons, ↓ex_nil, ↓ex_fieldAddr, ↓ex_load, ↓ex_binOp, ↓ex_move, ↓ex_guard, ↓ex_call, ↓AF.ev_func, ↓ex_unOp, ↓ex_pick, ↓AF.ev_bool, ↓ex_len, aFieldAddr, aload, partOf, aBin, aBinV, aUn, aLen, frame0, beq_bytes, int_bne, int_beq, DImage.row, int_bne, Int.natCast_inj, Int.ofNat_inj, h0]
            refine callK.of (eqCells _ c d x.cells y.cells (by omega)) ?_
            rintro _ _ ⟨rfl, rfl⟩
            simp [↓put_at, ↓AF.ev_tmp, ↓ex_cons, ↓ex_nil, ↓ex_fieldAddr, ↓ex_load, ↓ex_binOp, ↓ex_move, ↓ex_guard, ↓ex_call, ↓AF.ev_func, ↓ex_unOp, ↓ex_pick, ↓AF.ev_bool, ↓ex_len, aFieldAddr, aload, partOf, aBin, aBinV, aUn, aLen, frame0, beq_bytes, int_bne, int_beq, DImage.row, int_bne, Int.natCast_inj, Int.ofNat_inj, h0, h1]
            refine callK.of (sameFlats _ c d x.codes y.codes (by omega) hx4) ?_
            rintro _ _ ⟨rfl, rfl⟩
            simp [↓put_at, ↓AF.ev_tmp, ↓ex_cons, ↓ex_nil, ↓ex_fieldAddr, ↓ex_load, ↓ex_binOp, ↓ex_move, ↓ex_guard, ↓ex_call, ↓AF.ev_func, ↓ex_unOp, ↓ex_pick, ↓AF.ev_bool, ↓ex_len, aFieldAddr, aload, partOf, aBin, aBinV, aUn, aLen, frame0, beq_bytes, int_bne, int_beq, DImage.row, int_bne, Int.natCast_inj, Int.ofNat_inj, h0, h1, h2, h3]
            refine key _ _ ?_ ?_ ?_ ?_ ?_ ?_
            · simp
            · simp
            · simp [h0, h1, h2, h3]
            · simp [DImage.row, h0, h1, h2, h3]
            · simp [DImage.row]
            · exact (by repeat (first | exact AS.Ext.refl _ | refine AS.Ext.kill (by simp) ?_ | refine AS.Ext.bump ?_ | refine AS.Ext.setBox (by simp) ?_))
        · simp [↓put_at, ↓AF.ev_tmp, ↓ex_cons, ↓ex_nil, ↓ex_fieldAddr, ↓ex_load, ↓ex_binOp, ↓ex_move, ↓ex_guard, ↓ex_call, ↓AF.ev_func, ↓ex_unOp, ↓ex_pick, ↓AF.ev_bool, ↓ex_len, aFieldAddr, aload, partOf, aBin, aBinV, aUn, aLen, frame0, beq_bytes, int_bne, int_beq, DImage.row, int_bne, Int.natCast_inj, Int.ofNat_inj, h0]
          refine callK.of (eqCells _ c d x.cells y.cells (by omega)) ?_
          rintro _ _ ⟨rfl, rfl⟩
          simp [↓put_at, ↓AF.ev_tmp, ↓ex_cons, ↓ex_nil, ↓ex_fieldAddr, ↓ex_load, ↓ex_binOp, ↓ex_move, ↓ex_guard, ↓ex_call, ↓AF.ev_func, ↓ex_unOp, ↓ex_pick, ↓AF.ev_bool, ↓ex_len, aFieldAddr, aload, partOf, aBin, aBinV, aUn, aLen, frame0, beq_bytes, int_bne, int_beq, DImage.row, int_bne, Int.natCast_inj, Int.ofNat_inj, h0, h1]
          refine callK.of (sameFlats _ c d x.codes y.codes (by omega) hx4) ?_
          rintro _ _ ⟨rfl, rfl⟩
          simp [↓put_at, ↓AF.ev_tmp, ↓ex_cons, ↓ex_nil, ↓ex_fieldAddr, ↓ex_load, ↓ex_binOp, ↓ex_move, ↓ex_guard, ↓ex_call, ↓AF.ev_func, ↓ex_unOp, ↓ex_pick, ↓AF.ev_bool, ↓ex_len, aFieldAddr, aload, partOf, aBin, aBinV, aUn, aLen, frame0, beq_bytes, int_bne, int_beq, DImage.row, int_bne, Int.natCast_inj, Int.ofNat_inj, h0, h1, h2]
          refine key _ _ ?_ ?_ ?_ ?_ ?_ ?_
          · simp
          · simp
          · simp [h0, h1, h2]
          · simp [DImage.row, h0, h1, h2]
          · simp [DImage.row]
          · exact (by repeat (first | exact AS.Ext.refl _ | refine AS.Ext.kill (by simp) ?_ | refine AS.Ext.bump ?_ | refine AS.Ext.setBox (by simp) ?_))
      · simp [↓put_at, ↓AF.ev_tmp, ↓ex_cons, ↓ex_nil, ↓ex_fieldAddr, ↓ex_load, ↓ex_binOp, ↓ex_move, ↓ex_guard, ↓ex_call, ↓AF.ev_func, ↓ex_unOp, ↓ex_pick, ↓AF.ev_bool, ↓ex_len, aFieldAddr, aload, partOf, aBin, aBinV, aUn, aLen, frame0, beq_bytes, int_bne, int_beq, DImage.row, int_bne, Int.natCast_inj, Int.ofNat_inj, h0]
        refine callK.of (eqCells _ c d x.cells y.cells (by omega)) ?_
        rintro _ _ ⟨rfl, rfl⟩
        simp [↓put_at, ↓AF.ev_tmp, ↓ex_cons, ↓ex_nil, ↓ex_fieldAddr, ↓ex_load, ↓ex_binOp, ↓ex_move, ↓ex_guard, ↓ex_call, ↓AF.ev_func, ↓ex_unOp, ↓ex_pick, ↓AF.ev_bool, ↓ex_len, aFieldAddr, aload, partOf, aBin, aBinV, aUn, aLen, frame0, beq_bytes, int_bne, int_beq, DImage.row, int_bne, Int.natCast_inj, Int.ofNat_inj, h0, h1]
        refine key _ _ ?_ ?_ ?_ ?_ ?_ ?_
        · simp
        · simp
        · simp [h0, h1]
        · simp [DImage.row, h0, h1]
        · simp [DImage.row]
        · exact (by repeat (first | exact AS.Ext.refl _ | refine AS.Ext.kill (by simp) ?_ | refine AS.Ext.bump ?_ | refine AS.Ext.setBox (by simp) ?_))
    · simp [↓put_at, ↓AF.ev_tmp, ↓ex_cons, ↓ex_nil, ↓ex_fieldAddr, ↓ex_load, ↓ex_binOp, ↓ex_move, ↓ex_guard, ↓ex_call, ↓AF.ev_func, ↓ex_unOp, ↓ex_pick, ↓AF.ev_bool, ↓ex_len, aFieldAddr, aload, partOf, aBin, aBinV, aUn, aLen, frame0, beq_bytes, int_bne, int_beq, DImage.row, int_bne, Int.natCast_inj, Int.ofNat_inj, h0]
      refine key _ _ ?_ ?_ ?_ ?_ ?_ ?_
      · simp
      · simp
      · simp [h0]
      · simp [DImage.row, h0]
      · simp [DImage.row]
      · exact (by repeat (first | exact AS.Ext.refl _ | refine AS.Ext.kill (by simp) ?_ | refine AS.Ext.bump ?_ | refine AS.Ext.setBox (by simp) ?_))
  intro F2 H2 f2 f3 fl b1 b2 hext
  refine hK2 _ _ ?_
  try clear hK2 K2
  refine T_cond (t := !decide (x.name = y.name ∧ x.cells = y.cells ∧ x.codes = y.codes ∧ x.jobs.length = y.jobs.length)) ?_ (fun c0 => ?_) (fun c0 => ?_)
  · simpa using fl
  · refine T_seqk fun K3 hK3 => ?_
    refine T_regionL ?_ ?_
    · kernel_rfl
    simp [↓put_at, ↓AF.ev_tmp, ↓ex_cons, ↓ex_nil, ↓ex_assign, ↓AF.ev_bool, frame0]
    refine hK3 _ _ ?_
    try clear hK3 K3
    refine T_ret ?_
    try simp only [thenK_ret, blockT_ret, loopT_ret]
    -- leaf 0: ret
    have c0 : ¬ (x.name = y.name ∧ x.cells = y.cells ∧ x.codes = y.codes ∧ x.jobs.length = y.jobs.length) := fun hp => by rw [decide_eq_true hp] at c0; simp at c0
    refine owes_one (.inr rfl) hwf rfl ?_ hext (by simp) (by simp)
    simp
    intro e; subst e; simp at c0
  · have c0 : x.name = y.name ∧ x.cells = y.cells ∧ x.codes = y.codes ∧ x.jobs.length = y.jobs.length := Decidable.byContradiction fun hp => by rw [decide_eq_false hp] at c0; simp at c0
    refine T_skip ?_
    simp only [thenK_normal, blockT_normal, loopT_normal]
    refine hK1 _ _ ?_
    try clear hK1 K1
    refine T_seqk fun K4 hK4 => ?_
    refine T_seqk fun K5 hK5 => ?_
    refine T_regionL ?_ ?_
    · kernel_rfl
    simp [↓put_at, ↓AF.ev_tmp, ↓ex_cons, ↓ex_nil, ↓ex_fieldAddr, ↓ex_load, ↓ex_len, ↓ex_move, ↓AF.ev_int, aFieldAddr, aload, partOf, aLen, frame0, f2, f3, b1, b2, DImage.row]
    refine hK5 _ _ ?_
    try clear hK5 K5
    refine T_block ?_
    refine T_loop (fun k F H' => ∃ i : Nat, k = x.jobs.length - i ∧ i ≤ x.jobs.length ∧ F 2 = .ptr H.next 1 0 0 ∧ F 3 = .ptr (H.next + 1) 1 0 0 ∧ F 38 = pi x.jobs.length ∧ F 39 = pi i ∧ H2 = H' ∧ x.jobs.take i = y.jobs.take i) (x.jobs.length) ?_ ?_
    · refine ⟨0, ?_⟩
      simp [f2, f3]
    · rintro k F H' ⟨i, rfl, hi, h2, h3, h38, h39, rfl, htake⟩
      refine T_seqk fun K6 hK6 => ?_
      refine T_regionL ?_ ?_
      · kernel_rfl
      simp [↓put_at, ↓AF.ev_tmp, ↓ex_cons, ↓ex_nil, ↓ex_binOp, aBin, aBinV, frame0, h2, h3, h38, h39]
      refine hK6 _ _ ?_
      try clear hK6 K6
      refine T_seqk fun K7 hK7 => ?_
      refine T_cond rfl (fun c1 => ?_) (fun c1 => ?_)
      · have hlt : i < x.jobs.length := by simpa using c1
        refine T_skip ?_
        simp only [thenK_normal, blockT_normal, loopT_normal]
        refine hK7 _ _ ?_
        try clear hK7 K7
        refine T_seqk fun K8 hK8 => ?_
        refine T_block ?_
        refine T_seqk fun K9 hK9 => ?_
        refine T_regionL ?_ ?_
        · kernel_rfl
        simp [↓put_at, ↓AF.ev_tmp, ↓ex_cons, ↓ex_nil, ↓ex_move, ↓ex_assign, frame0, h2, h3, h38, h39]
        refine hK9 _ _ ?_
        try clear hK9 K9
        refine T_seqk fun K10 hK10 => ?_
        refine T_draw (fun id => id = H.next ∨ id = H.next + 1) [] (.free 0 (.free 1 (.free 2 (.free 3 (.free 4 (.free 5 (.free 6 (.free 7 (.free 8 (.free 9 (.free 10 (.free 11 .done)))))))))))) mix ?_ ?_ ?_
        · kernel_rfl
        · kernel_rfl
        have hlt' : i < y.jobs.length := by omega
        simp [↓put_at, ↓AF.ev_tmp, ↓wk_free, ↓wk_sole, ↓wk_done, ↓wanted_none, Keeps, Same, ↓wk_fieldAddr, ↓wk_load, ↓wk_move, ↓wk_indexAddr, ↓wk_call, ↓AF.ev_func, ↓wk_unOp, aFieldAddr, aload, aIndexAddr, aUn, frame0, h2, h3, h38, h39, b1, b2, part_jobs, sl_get (map_get (f := DJob.row c) hlt), sl_get (map_get (f := DJob.row d) hlt'), part_job]
        refine askK.of _ ?_ (fun H' hS => sameJobP H' c d x.jobs[i] y.jobs[i] (by have := (hx5 _ (List.getElem_mem hlt)).1; omega) (by have := (hx5 _ (List.getElem_mem hlt)).2; omega)) ?_
        · intro H' hS; first | rfl | (rw [hS.2])
        simp [↓put_at, ↓AF.ev_tmp, ↓wk_free, ↓wk_sole, ↓wk_done, ↓wanted_none, Keeps, Same, ↓wk_fieldAddr, ↓wk_load, ↓wk_move, ↓wk_indexAddr, ↓wk_call, ↓AF.ev_func, ↓wk_unOp, aFieldAddr, aload, aIndexAddr, aUn, frame0, h2, h3, h38, h39, b1, b2, part_jobs, sl_get (map_get (f := DJob.row c) hlt), sl_get (map_get (f := DJob.row d) hlt'), part_job]
        refine hK10 _ _ ?_
        try clear hK10 K10
        refine T_cond rfl (fun c2 => ?_) (fun c2 => ?_)
        · refine T_seqk fun K11 hK11 => ?_
          refine T_regionL ?_ ?_
          · kernel_rfl
          simp [↓put_at, ↓AF.ev_tmp, ↓ex_cons, ↓ex_nil, ↓ex_assign, ↓AF.ev_bool, frame0, h2, h3, h38, h39]
          refine hK11 _ _ ?_
          try clear hK11 K11
          refine T_ret ?_
          try simp only [thenK_ret, blockT_ret, loopT_ret]
          -- leaf 1: ret
          refine owes_one (.inr rfl) hwf rfl ?_ hext (by simp) (by simp)
          simp
          intro e; subst e; simp at c2
        · have heq : x.jobs[i] = y.jobs[i] := by simpa using c2
          refine T_skip ?_
          simp only [thenK_normal, blockT_normal, loopT_normal]
          refine hK8 _ _ ?_
          try clear hK8 K8
          refine T_regionL ?_ ?_
          · kernel_rfl
          simp [↓put_at, ↓AF.ev_tmp, ↓ex_cons, ↓ex_nil, ↓ex_binOp, ↓AF.ev_int, ↓ex_move, aBin, aBinV, frame0, h2, h3, h38, h39]
          -- end of a round of loop 0
          refine ⟨x.jobs.length - (i + 1), by omega, i + 1, rfl, by omega, ?_⟩
          simp [h2, h3, h38, h39]
          rw [wrap_i64 (by omega) (by omega)]
          refine ⟨rfl, ?_⟩
          rw [List.take_succ_eq_append_getElem hlt, List.take_succ_eq_append_getElem hlt', htake, heq]
      · have hge : x.jobs.length ≤ i := by simpa using c1
        refine T_exit ?_
        try simp only [thenK_exit, blockT_exit, loopT_exit, if_true, Nat.reduceEqDiff, if_false, reduceIte, thenK_normal, blockT_normal, loopT_normal]
        refine hK4 _ _ ?_
        try clear hK4 K4
        refine T_seqk fun K12 hK12 => ?_
        refine T_regionL ?_ ?_
        · kernel_rfl
        simp [↓put_at, ↓AF.ev_tmp, ↓ex_cons, ↓ex_nil, ↓ex_assign, ↓AF.ev_bool, frame0, h2, h3, h38, h39]
        refine hK12 _ _ ?_
        try clear hK12 K12
        refine T_ret ?_
        try simp only [thenK_ret, blockT_ret, loopT_ret]
        -- leaf 2: ret
        refine owes_one (.inr rfl) hwf rfl ?_ hext (by simp) (by simp)
        simp
        rw [List.take_of_length_le hge, List.take_of_length_le (by omega)] at htake
        exact DImage.ext c0.1 c0.2.1 c0.2.2.1 htake
end Go.Abs
