import Derived.Test.YtahkpjbhjkmedaaU0
namespace Go.Abs
open Go.Proofs
set_option autoImplicit false
set_option linter.all false
def onceL (a b : Int) : List Int := if a = b then [a] else [a, b]
set_option maxRecDepth 100000 in
theorem onceOpen (H : AS) (a b : Int) : ACalls Try.prog 11 [pi a, pi b] H fun q H' => OutIs H.next H' q 1 ((onceL a b).map irow) ∧ H.Ext H' := by
  refine ACalls_open Try.func11 rfl (by kernel_rfl) (by simp) fun hwf hbel => ?_
  refine T_seqk fun K0 hK0 => ?_
  refine T_regionL ?_ ?_
  · kernel_rfl
  simp [↓put_at, ↓AF.ev_tmp, ↓ex_cons, ↓ex_nil, ↓ex_assign, ↓AF.ev_slice, frame0]
  refine hK0 _ _ ?_
  try clear hK0 K0
  refine T_seqk fun K1 hK1 => ?_
  refine T_seqk fun K2 hK2 => ?_
  refine T_regionL ?_ ?_
  · kernel_rfl
  simp [↓put_at, ↓AF.ev_tmp, ↓ex_cons, ↓ex_nil, ↓ex_move, ↓ex_binOp, aBin, aBinV, frame0, int_beq]
  refine hK2 _ _ ?_
  try clear hK2 K2
  refine T_cond rfl (fun c0 => ?_) (fun c0 => ?_)
  · refine T_seqk fun K3 hK3 => ?_
    refine T_regionL ?_ ?_
    · kernel_rfl
    simp [↓put_at, ↓AF.ev_tmp, ↓ex_cons, ↓ex_nil, ↓ex_move, ↓ex_buildSlice, ↓ex_assign, abuildSlice, frame0, frzR_id]
    refine hK3 _ _ ?_
    try clear hK3 K3
    refine T_ret ?_
    try simp only [thenK_ret, blockT_ret, loopT_ret]
    -- leaf 0: ret
    have e : a = b := by simpa using c0
    refine owesO_one (.inr rfl) rfl ⟨?_, ?_⟩
    · simp [onceL, e, irow]
      exact .mk (Nat.le_refl _) (by simp) (by simp) rfl
    · exact .bump (.setBox (Nat.le_refl _) (.refl _))
  · refine T_skip ?_
    simp only [thenK_normal, blockT_normal, loopT_normal]
    refine hK1 _ _ ?_
    try clear hK1 K1
    refine T_seqk fun K4 hK4 => ?_
    refine T_regionL ?_ ?_
    · kernel_rfl
    simp [↓put_at, ↓AF.ev_tmp, ↓ex_cons, ↓ex_nil, ↓ex_move, ↓ex_buildSlice, ↓ex_assign, abuildSlice, frame0, frzR_id]
    refine hK4 _ _ ?_
    try clear hK4 K4
    refine T_ret ?_
    try simp only [thenK_ret, blockT_ret, loopT_ret]
    -- leaf 1: ret
    have e : ¬ a = b := by simpa using c0
    refine owesO_one (.inr rfl) rfl ⟨?_, ?_⟩
    · simp [onceL, e, irow]
      exact .mk (Nat.le_refl _) (by simp) (by simp) rfl
    · exact .bump (.setBox (Nat.le_refl _) (.refl _))
end Go.Abs
