import Derived.Test.YtbngednclmjfoaaF7
namespace Go.Abs
open Go.Proofs
set_option autoImplicit false
set_option linter.all false
set_option maxRecDepth 100000 in
theorem lawHolds (H : AS) (c d : Nat) (x y : DImage) (hx : x.Small) (hy : y.Small) : ACalls Try.prog 3 [.agg (x.row c), .agg (y.row d)] H fun r H' => r = pb true ∧ H' = H := by
  refine ACalls_intro Try.func3 rfl (by kernel_rfl) (by simp) fun hwf hbel => ?_
  refine T_seqk fun K0 hK0 => ?_
  refine T_regionL ?_ ?_
  · kernel_rfl
  simp [↓put_at, ↓AF.ev_tmp, ↓ex_cons, ↓ex_nil, ↓ex_box, ↓ex_assign, ↓AF.ev_bool, abox, frame0, DImage.row]
  refine hK0 _ _ ?_
  try clear hK0 K0
  refine T_seqk fun K1 hK1 => ?_
  refine T_draw (fun id => id = H.next ∨ id = H.next + 1) [] (.free 0 (.free 1 (.free 2 (.free 3 (.two 4 5 (.sole 5 (.sole 6 (.sole 7 .done))) (.sole 4 (.sole 6 (.sole 7 .done)))))))) mix ?_ ?_ ?_
  · kernel_rfl
  · kernel_rfl
  suffices key : ∀ (F2 : AF) (H2 : AS) (a b : Nat), F2 2 = .ptr H.next 1 0 0 → F2 3 = .ptr (H.next + 1) 1 0 0 → F2 5 = .ptr a 1 0 0 → F2 6 = .ptr b 1 0 0 → H2.box H.next = some [x.row c] → H2.box (H.next + 1) = some [y.row d] → H2.box a = some [x.row H.color] → H2.box b = some [y.row H.color] → H2.color = H.color → H.Ext H2 → K1 F2 H2 by
    simp [DImage.row, ↓put_at, ↓AF.ev_tmp, ↓wk_free, ↓wk_sole, ↓wk_done, ↓wanted_none, Keeps, Same, ↓wk_load, ↓wk_call, ↓AF.ev_func, ↓ex_alloc, ↓ex_store, aload, partOf, aalloc, astore, splice, frame0, ↓wk_two, aStep_eq, Nat.add_assoc, DImage.row]
    refine askK.of _ ?_ (fun H' hS => imageCopy H' c x hx) ?_
    · intro H' hS; first | rfl | (rw [hS.2])
    simp [↓put_at, ↓AF.ev_tmp, ↓wk_free, ↓wk_sole, ↓wk_done, ↓wanted_none, Keeps, Same, ↓wk_load, ↓wk_call, ↓AF.ev_func, ↓ex_alloc, ↓ex_store, aload, partOf, aalloc, astore, splice, frame0, ↓wk_two, aStep_eq, Nat.add_assoc, DImage.row]
    refine askK.of _ ?_ (fun H' hS => imageCopy H' d y hy) ?_
    · intro H' hS; first | rfl | (rw [hS.2])
    simp [↓put_at, ↓AF.ev_tmp, ↓wk_free, ↓wk_sole, ↓wk_done, ↓wanted_none, Keeps, Same, ↓wk_load, ↓wk_call, ↓AF.ev_func, ↓ex_alloc, ↓ex_store, aload, partOf, aalloc, astore, splice, frame0, ↓wk_two, aStep_eq, Nat.add_assoc, DImage.row]
    constructor
    · refine key _ _ (H.next + 2) (H.next + 3) ?_ ?_ ?_ ?_ ?_ ?_ ?_ ?_ ?_ ?_
      · simp [DImage.row, Nat.add_assoc]
      · simp [DImage.row, Nat.add_assoc]
      · simp [DImage.row, Nat.add_assoc]
      · simp [DImage.row, Nat.add_assoc]
      · simp [DImage.row, Nat.add_assoc]
      · simp [DImage.row, Nat.add_assoc]
      · simp [DImage.row, Nat.add_assoc]
      · simp [DImage.row, Nat.add_assoc]
      · simp [DImage.row, Nat.add_assoc]
      · repeat (first | exact AS.Ext.refl _ | refine AS.Ext.kill (by simp) ?_ | refine AS.Ext.bump ?_ | refine AS.Ext.setBox (by simp) ?_)
    · refine key _ _ (H.next + 3) (H.next + 2) ?_ ?_ ?_ ?_ ?_ ?_ ?_ ?_ ?_ ?_
      · simp [DImage.row, Nat.add_assoc]
      · simp [DImage.row, Nat.add_assoc]
      · simp [DImage.row, Nat.add_assoc]
      · simp [DImage.row, Nat.add_assoc]
      · simp [DImage.row, Nat.add_assoc]
      · simp [DImage.row, Nat.add_assoc]
      · simp [DImage.row, Nat.add_assoc]
      · simp [DImage.row, Nat.add_assoc]
      · simp [DImage.row, Nat.add_assoc]
      · repeat (first | exact AS.Ext.refl _ | refine AS.Ext.kill (by simp) ?_ | refine AS.Ext.bump ?_ | refine AS.Ext.setBox (by simp) ?_)
  intro F2 H2 a b f2 f3 f5 f6 b1 b2 ba bb hcol hext
  refine hK1 _ _ ?_
  try clear hK1 K1
  refine T_seqk fun K2 hK2 => ?_
  refine T_draw (fun _ => True) [] (.free 0 (.free 1 (.free 2 (.free 3 (.free 4 (.free 5 (.free 6 (.free 7 (.free 8 (.free 9 (.free 10 (.free 11 (.free 12 (.free 13 (.free 14 (.free 15 (.free 16 (.free 17 (.free 18 (.free 19 (.free 20 (.free 21 (.free 22 .done))))))))))))))))))))))) mix ?_ ?_ ?_
  · kernel_rfl
  · kernel_rfl
  simp [↓put_at, ↓AF.ev_tmp, ↓wk_free, ↓wk_sole, ↓wk_done, ↓wanted_none, Keeps, Same, ↓wk_load, ↓wk_call, ↓AF.ev_func, ↓wk_binOp, ↓wk_move, ↓wanted_some, ↓wk_pick, ↓AF.ev_bool, ↓wk_assign, aload, aBin, aBinV, frame0, f2, f3, f5, f6, b1, b2, ba, bb, part_image]
  refine askK.of _ ?_ (fun H' hS => sameImages H' _ _ x y hx) ?_
  · intro H' hS; first | rfl | (rw [hS.2])
  simp [↓put_at, ↓AF.ev_tmp, ↓wk_free, ↓wk_sole, ↓wk_done, ↓wanted_none, Keeps, Same, ↓wk_load, ↓wk_call, ↓AF.ev_func, ↓wk_binOp, ↓wk_move, ↓wanted_some, ↓wk_pick, ↓AF.ev_bool, ↓wk_assign, aload, aBin, aBinV, frame0, f2, f3, f5, f6, b1, b2, ba, bb, part_image]
  refine askK.of _ ?_ (fun H' hS => sameImageP H' _ _ x y hx) ?_
  · intro H' hS; first | rfl | (rw [hS.2])
  simp [↓put_at, ↓AF.ev_tmp, ↓wk_free, ↓wk_sole, ↓wk_done, ↓wanted_none, Keeps, Same, ↓wk_load, ↓wk_call, ↓AF.ev_func, ↓wk_binOp, ↓wk_move, ↓wanted_some, ↓wk_pick, ↓AF.ev_bool, ↓wk_assign, aload, aBin, aBinV, frame0, f2, f3, f5, f6, b1, b2, ba, bb, part_image]
  refine askK.of _ ?_ (fun H' hS => sameImages H' _ _ x x hx) ?_
  · intro H' hS; first | rfl | (rw [hS.2])
  simp [↓put_at, ↓AF.ev_tmp, ↓wk_free, ↓wk_sole, ↓wk_done, ↓wanted_none, Keeps, Same, ↓wk_load, ↓wk_call, ↓AF.ev_func, ↓wk_binOp, ↓wk_move, ↓wanted_some, ↓wk_pick, ↓AF.ev_bool, ↓wk_assign, aload, aBin, aBinV, frame0, f2, f3, f5, f6, b1, b2, ba, bb, part_image]
  refine askK.of _ ?_ (fun H' hS => sameImageP H' _ _ x x hx) ?_
  · intro H' hS; first | rfl | (rw [hS.2])
  simp [↓put_at, ↓AF.ev_tmp, ↓wk_free, ↓wk_sole, ↓wk_done, ↓wanted_none, Keeps, Same, ↓wk_load, ↓wk_call, ↓AF.ev_func, ↓wk_binOp, ↓wk_move, ↓wanted_some, ↓wk_pick, ↓AF.ev_bool, ↓wk_assign, aload, aBin, aBinV, frame0, f2, f3, f5, f6, b1, b2, ba, bb, part_image]
  refine askK.of _ ?_ (fun H' hS => sameImageP H' _ _ y y hy) ?_
  · intro H' hS; first | rfl | (rw [hS.2])
  simp [↓put_at, ↓AF.ev_tmp, ↓wk_free, ↓wk_sole, ↓wk_done, ↓wanted_none, Keeps, Same, ↓wk_load, ↓wk_call, ↓AF.ev_func, ↓wk_binOp, ↓wk_move, ↓wanted_some, ↓wk_pick, ↓AF.ev_bool, ↓wk_assign, aload, aBin, aBinV, frame0, f2, f3, f5, f6, b1, b2, ba, bb, part_image]
  refine hK2 _ _ ?_
  try clear hK2 K2
  refine T_ret ?_
  try simp only [thenK_ret, blockT_ret, loopT_ret]
  -- leaf 0: ret
  refine owes_one (.inr rfl) hwf rfl ?_ hext (by simp) (by simp)
  simp
end Go.Abs
