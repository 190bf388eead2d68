import Derived.Test.YtahkpjbhjkmedaaU3
namespace Go.Abs
open Go.Proofs
set_option autoImplicit false
set_option linter.all false
theorem owesO_none {fn : Func} {P : Program} {F' : AF} {H' : AS} {e : Exit} {k : PV → AS → Prop} (he : e = .normal ∨ e = .ret) (hr : aResults P F' H' fn.results.toList = some []) (hk : k (.tuple []) H') : OwesO P fn k e F' H' := by
  refine ⟨he, ?_⟩
  rw [hr]; exact hk
theorem w1 : IntKind.i64.wrap 1 = 1 := rfl
set_option maxRecDepth 100000 in
theorem notNan (H : AS) (a : Int) : ACalls Try.prog 31 [pi a] H fun q H' => q = pb false ∧ H' = H := by
  refine ACalls_intro Try.func31 rfl (by kernel_rfl) (by simp) fun hwf hbel => ?_
  refine T_seqk fun K0 hK0 => ?_
  refine T_regionL ?_ ?_
  · kernel_rfl
  simp [↓put_at, ↓AF.ev_tmp, ↓ex_cons, ↓ex_nil, ↓ex_assign, ↓AF.ev_bool, frame0]
  refine hK0 _ _ ?_
  try clear hK0 K0
  refine T_seqk fun K1 hK1 => ?_
  refine T_regionL ?_ ?_
  · kernel_rfl
  simp [↓put_at, ↓AF.ev_tmp, ↓ex_cons, ↓ex_nil, ↓ex_move, ↓ex_binOp, ↓ex_assign, aBin, aBinV, frame0, int_bne]
  refine hK1 _ _ ?_
  try clear hK1 K1
  refine T_ret ?_
  try simp only [thenK_ret, blockT_ret, loopT_ret]
  -- leaf 0: ret
  refine owes_one (.inr rfl) hwf rfl ?_ (.refl _) (by simp) (by simp)
  simp
set_option maxRecDepth 100000 in
theorem lessInt (H : AS) (a b : Int) : ACalls Try.prog 21 [pi a, pi b] H fun q H' => q = pb (decide (a < b)) ∧ H' = H := by
  refine ACalls_intro Try.func21 rfl (by kernel_rfl) (by simp) fun hwf hbel => ?_
  refine T_seqk fun K0 hK0 => ?_
  refine T_regionL ?_ ?_
  · kernel_rfl
  simp [↓put_at, ↓AF.ev_tmp, ↓ex_cons, ↓ex_nil, ↓ex_assign, ↓AF.ev_bool, frame0]
  refine hK0 _ _ ?_
  try clear hK0 K0
  refine T_seqk fun K1 hK1 => ?_
  refine T_regionL ?_ ?_
  · kernel_rfl
  simp [↓put_at, ↓AF.ev_tmp, ↓ex_cons, ↓ex_nil, ↓ex_move, ↓ex_call, ↓AF.ev_func, ↓ex_guard, ↓ex_unOp, ↓ex_pick, ↓AF.ev_bool, ↓ex_binOp, ↓ex_assign, aUn, aBin, aBinV, frame0]
  refine callK.of (notNan _ a) ?_
  rintro _ _ ⟨rfl, rfl⟩
  simp [↓put_at, ↓AF.ev_tmp, ↓ex_cons, ↓ex_nil, ↓ex_move, ↓ex_call, ↓AF.ev_func, ↓ex_guard, ↓ex_unOp, ↓ex_pick, ↓AF.ev_bool, ↓ex_binOp, ↓ex_assign, aUn, aBin, aBinV, frame0]
  refine hK1 _ _ ?_
  try clear hK1 K1
  refine T_ret ?_
  try simp only [thenK_ret, blockT_ret, loopT_ret]
  -- leaf 0: ret
  refine owes_one (.inr rfl) hwf rfl ?_ (.refl _) (by simp) (by simp)
  simp
set_option maxRecDepth 100000 in
theorem insOne (H : AS) (id : Nat) : ACalls Try.prog 15 [.msl id 1 1, pi 0, pi 1] H fun q H' => q = .tuple [] ∧ H' = H := by
  refine ACalls_open Try.func15 rfl (by kernel_rfl) (by simp) fun hwf hbel => ?_
  refine T_seqk fun K0 hK0 => ?_
  refine T_regionL ?_ ?_
  · kernel_rfl
  simp [↓put_at, ↓AF.ev_tmp, ↓ex_cons, ↓ex_nil, ↓ex_move, ↓ex_binOp, ↓AF.ev_int, ↓ex_assign, aBin, aBinV, frame0, w1]
  refine hK0 _ _ ?_
  try clear hK0 K0
  refine T_block ?_
  refine T_loop (fun k F H' => F 0 = .msl id 1 1 ∧ F 1 = pi 0 ∧ F 2 = pi 1 ∧ F 6 = pi 1 ∧ H' = H) (0) ?_ ?_
  · simp [frame0]
  · rintro k F H' ⟨h0, h1, h2, h6, rfl⟩
    refine T_seqk fun K1 hK1 => ?_
    refine T_seqk fun K2 hK2 => ?_
    refine T_regionL ?_ ?_
    · kernel_rfl
    simp [↓put_at, ↓AF.ev_tmp, ↓ex_cons, ↓ex_nil, ↓ex_move, ↓ex_binOp, aBin, aBinV, frame0, h0, h1, h2, h6]
    refine hK2 _ _ ?_
    try clear hK2 K2
    refine T_cond (by first | rfl | exact h0 | exact h1 | exact h2 | exact h6) (fun c0 => ?_) (fun c0 => ?_)
    · cases c0 --done
    · refine T_exit ?_
      try simp only [thenK_exit, blockT_exit, loopT_exit, if_true, Nat.reduceEqDiff, if_false, reduceIte, thenK_normal, blockT_normal, loopT_normal]
      -- leaf 0: normal
      refine owesO_none (.inl rfl) rfl ⟨rfl, rfl⟩
end Go.Abs
