import Derived.Test.YtbngednclmjfoaaF1
namespace Go.Abs
open Go.Proofs
set_option autoImplicit false
set_option linter.all false
set_option maxRecDepth 100000 in
theorem cloneCells_cons (H : AS) (c : Nat) (r : List PV) (rs : List (List PV)) (hr : ∀ x ∈ r :: rs, ∀ p ∈ x, Frozen p) (hn : (r :: rs).length * 96 ≤ 2 ^ 47) : ACalls Try.prog 7 [.slice c 11 (r :: rs)] H fun q H' => q = .slice H.color 11 (r :: rs) ∧ H' = H := by
  refine ACalls_intro Try.func7 rfl (by kernel_rfl) (by simp) fun hwf hbel => ?_
  refine T_seqk fun K0 hK0 => ?_
  refine T_regionL ?_ ?_
  · kernel_rfl
  simp [↓put_at, ↓AF.ev_tmp, ↓ex_cons, ↓ex_nil, ↓ex_assign, ↓AF.ev_slice, frame0]
  refine hK0 _ _ ?_
  try clear hK0 K0
  refine T_seqk fun K1 hK1 => ?_
  refine T_seqk fun K2 hK2 => ?_
  refine T_regionL ?_ ?_
  · kernel_rfl
  simp [↓put_at, ↓AF.ev_tmp, ↓ex_cons, ↓ex_nil, ↓ex_move, ↓ex_binOp, ↓AF.ev_slice, aBin, aBinV, frame0, aNilTest]
  refine hK2 _ _ ?_
  try clear hK2 K2
  refine T_cond rfl (fun c0 => ?_) (fun c0 => ?_)
  · cases c0 --done
  · refine T_skip ?_
    simp only [thenK_normal, blockT_normal, loopT_normal]
    refine hK1 _ _ ?_
    try clear hK1 K1
    refine T_seqk fun K3 hK3 => ?_
    refine T_regionL ?_ ?_
    · kernel_rfl
    simp [↓put_at, ↓AF.ev_tmp, ↓ex_cons, ↓ex_nil, ↓ex_buildSlice, ↓ex_move, ↓ex_append, ↓ex_assign, abuildSlice, frame0, abuildSlice, appendK_eq, aappend, srcOf, frzR_id hr]
    refine ⟨by simpa using hn, ?_⟩
    refine hK3 _ _ ?_
    try clear hK3 K3
    refine T_ret ?_
    try simp only [thenK_ret, blockT_ret, loopT_ret]
    -- leaf 0: ret
    refine owes_pure (.inr rfl) hwf rfl ?_ ?_ ?_
    · simp [frzVs, frzV, frz]
      repeat (first | exact AS.Ext.refl _ | refine AS.Ext.kill (by simp) ?_ | refine AS.Ext.bump ?_ | refine AS.Ext.setBox (by simp) ?_)
    · simpa [frzVs, frzV, frz, sl_cons] using hbel
    · simp [frzVs, frzV, frz, packed, sl_cons]

set_option maxRecDepth 100000 in
theorem cloneCells_nil (H : AS)  : ACalls Try.prog 7 [.nilS] H fun q H' => q = .nilS ∧ H' = H := by
  refine ACalls_intro Try.func7 rfl (by kernel_rfl) (by simp) fun hwf hbel => ?_
  refine T_seqk fun K0 hK0 => ?_
  refine T_regionL ?_ ?_
  · kernel_rfl
  simp [↓put_at, ↓AF.ev_tmp, ↓ex_cons, ↓ex_nil, ↓ex_assign, ↓AF.ev_slice, frame0]
  refine hK0 _ _ ?_
  try clear hK0 K0
  refine T_seqk fun K1 hK1 => ?_
  refine T_seqk fun K2 hK2 => ?_
  refine T_regionL ?_ ?_
  · kernel_rfl
  simp [↓put_at, ↓AF.ev_tmp, ↓ex_cons, ↓ex_nil, ↓ex_move, ↓ex_binOp, ↓AF.ev_slice, aBin, aBinV, frame0, aNilTest]
  suffices key : ∀ b : Bool, K2 (((((frame0 [PV.nilS]).put (some 2) (PV.val (.slice none 0 0))).put (some 3) PV.nilS)).put (some 4) (pb b)) H from ⟨key _, key _⟩
  intro b
  refine hK2 _ _ ?_
  try clear hK2 K2
  refine T_cond rfl (fun c0 => ?_) (fun c0 => ?_)
  · refine T_seqk fun K3 hK3 => ?_
    refine T_regionL ?_ ?_
    · kernel_rfl
    simp [↓put_at, ↓AF.ev_tmp, ↓ex_cons, ↓ex_nil, ↓ex_assign, ↓AF.ev_slice, frame0]
    refine hK3 _ _ ?_
    try clear hK3 K3
    refine T_ret ?_
    try simp only [thenK_ret, blockT_ret, loopT_ret]
    -- leaf 0: ret
    refine owes_pure (.inr rfl) hwf rfl ?_ ?_ ?_
    · simp [frzVs, frzV, frz]
      repeat (first | exact AS.Ext.refl _ | refine AS.Ext.kill (by simp) ?_ | refine AS.Ext.bump ?_ | refine AS.Ext.setBox (by simp) ?_)
    · simpa [frzVs, frzV, frz, sl_cons] using hbel
    · simp [frzVs, frzV, frz, packed, sl_cons]
  · refine T_skip ?_
    simp only [thenK_normal, blockT_normal, loopT_normal]
    refine hK1 _ _ ?_
    try clear hK1 K1
    refine T_seqk fun K4 hK4 => ?_
    refine T_regionL ?_ ?_
    · kernel_rfl
    simp [↓put_at, ↓AF.ev_tmp, ↓ex_cons, ↓ex_nil, ↓ex_buildSlice, ↓ex_move, ↓ex_append, ↓ex_assign, abuildSlice, frame0, abuildSlice, appendK_eq, aappend, srcOf]
    refine hK4 _ _ ?_
    try clear hK4 K4
    refine T_ret ?_
    try simp only [thenK_ret, blockT_ret, loopT_ret]
    -- leaf 1: ret
    refine owes_pure (.inr rfl) hwf rfl ?_ ?_ ?_
    · simp [frzVs, frzV, frz]
      repeat (first | exact AS.Ext.refl _ | refine AS.Ext.kill (by simp) ?_ | refine AS.Ext.bump ?_ | refine AS.Ext.setBox (by simp) ?_)
    · simpa [frzVs, frzV, frz, sl_cons] using hbel
    · simp [frzVs, frzV, frz, packed, sl_cons]

theorem cloneCells (H : AS) (c : Nat) (rows : List (List PV)) (hr : ∀ x ∈ rows, ∀ p ∈ x, Frozen p) (hn : rows.length * 96 ≤ 2 ^ 47) : ACalls Try.prog 7 [PV.sl c 11 rows] H fun q H' => q = PV.sl H.color 11 rows ∧ H' = H := by
  cases rows with
  | nil => exact cloneCells_nil H
  | cons r rs => exact cloneCells_cons H c r rs hr hn

set_option maxRecDepth 100000 in
theorem cloneOps_cons (H : AS) (c : Nat) (r : List PV) (rs : List (List PV)) (hr : ∀ x ∈ r :: rs, ∀ p ∈ x, Frozen p) (hn : (r :: rs).length * 88 ≤ 2 ^ 47) : ACalls Try.prog 22 [.slice c 10 (r :: rs)] H fun q H' => q = .slice H.color 10 (r :: rs) ∧ H' = H := by
  refine ACalls_intro Try.func22 rfl (by kernel_rfl) (by simp) fun hwf hbel => ?_
  refine T_seqk fun K0 hK0 => ?_
  refine T_regionL ?_ ?_
  · kernel_rfl
  simp [↓put_at, ↓AF.ev_tmp, ↓ex_cons, ↓ex_nil, ↓ex_assign, ↓AF.ev_slice, frame0]
  refine hK0 _ _ ?_
  try clear hK0 K0
  refine T_seqk fun K1 hK1 => ?_
  refine T_seqk fun K2 hK2 => ?_
  refine T_regionL ?_ ?_
  · kernel_rfl
  simp [↓put_at, ↓AF.ev_tmp, ↓ex_cons, ↓ex_nil, ↓ex_move, ↓ex_binOp, ↓AF.ev_slice, aBin, aBinV, frame0, aNilTest]
  refine hK2 _ _ ?_
  try clear hK2 K2
  refine T_cond rfl (fun c0 => ?_) (fun c0 => ?_)
  · cases c0 --done
  · refine T_skip ?_
    simp only [thenK_normal, blockT_normal, loopT_normal]
    refine hK1 _ _ ?_
    try clear hK1 K1
    refine T_seqk fun K3 hK3 => ?_
    refine T_regionL ?_ ?_
    · kernel_rfl
    simp [↓put_at, ↓AF.ev_tmp, ↓ex_cons, ↓ex_nil, ↓ex_buildSlice, ↓ex_move, ↓ex_append, ↓ex_assign, abuildSlice, frame0, abuildSlice, appendK_eq, aappend, srcOf, frzR_id hr]
    refine ⟨by simpa using hn, ?_⟩
    refine hK3 _ _ ?_
    try clear hK3 K3
    refine T_ret ?_
    try simp only [thenK_ret, blockT_ret, loopT_ret]
    -- leaf 0: ret
    refine owes_pure (.inr rfl) hwf rfl ?_ ?_ ?_
    · simp [frzVs, frzV, frz]
      repeat (first | exact AS.Ext.refl _ | refine AS.Ext.kill (by simp) ?_ | refine AS.Ext.bump ?_ | refine AS.Ext.setBox (by simp) ?_)
    · simpa [frzVs, frzV, frz, sl_cons] using hbel
    · simp [frzVs, frzV, frz, packed, sl_cons]

set_option maxRecDepth 100000 in
theorem cloneOps_nil (H : AS)  : ACalls Try.prog 22 [.nilS] H fun q H' => q = .nilS ∧ H' = H := by
  refine ACalls_intro Try.func22 rfl (by kernel_rfl) (by simp) fun hwf hbel => ?_
  refine T_seqk fun K0 hK0 => ?_
  refine T_regionL ?_ ?_
  · kernel_rfl
  simp [↓put_at, ↓AF.ev_tmp, ↓ex_cons, ↓ex_nil, ↓ex_assign, ↓AF.ev_slice, frame0]
  refine hK0 _ _ ?_
  try clear hK0 K0
  refine T_seqk fun K1 hK1 => ?_
  refine T_seqk fun K2 hK2 => ?_
  refine T_regionL ?_ ?_
  · kernel_rfl
  simp [↓put_at, ↓AF.ev_tmp, ↓ex_cons, ↓ex_nil, ↓ex_move, ↓ex_binOp, ↓AF.ev_slice, aBin, aBinV, frame0, aNilTest]
  suffices key : ∀ b : Bool, K2 (((((frame0 [PV.nilS]).put (some 2) (PV.val (.slice none 0 0))).put (some 3) PV.nilS)).put (some 4) (pb b)) H from ⟨key _, key _⟩
  intro b
  refine hK2 _ _ ?_
  try clear hK2 K2
  refine T_cond rfl (fun c0 => ?_) (fun c0 => ?_)
  · refine T_seqk fun K3 hK3 => ?_
    refine T_regionL ?_ ?_
    · kernel_rfl
    simp [↓put_at, ↓AF.ev_tmp, ↓ex_cons, ↓ex_nil, ↓ex_assign, ↓AF.ev_slice, frame0]
    refine hK3 _ _ ?_
    try clear hK3 K3
    refine T_ret ?_
    try simp only [thenK_ret, blockT_ret, loopT_ret]
    -- leaf 0: ret
    refine owes_pure (.inr rfl) hwf rfl ?_ ?_ ?_
    · simp [frzVs, frzV, frz]
      repeat (first | exact AS.Ext.refl _ | refine AS.Ext.kill (by simp) ?_ | refine AS.Ext.bump ?_ | refine AS.Ext.setBox (by simp) ?_)
    · simpa [frzVs, frzV, frz, sl_cons] using hbel
    · simp [frzVs, frzV, frz, packed, sl_cons]
  · refine T_skip ?_
    simp only [thenK_normal, blockT_normal, loopT_normal]
    refine hK1 _ _ ?_
    try clear hK1 K1
    refine T_seqk fun K4 hK4 => ?_
    refine T_regionL ?_ ?_
    · kernel_rfl
    simp [↓put_at, ↓AF.ev_tmp, ↓ex_cons, ↓ex_nil, ↓ex_buildSlice, ↓ex_move, ↓ex_append, ↓ex_assign, abuildSlice, frame0, abuildSlice, appendK_eq, aappend, srcOf]
    refine hK4 _ _ ?_
    try clear hK4 K4
    refine T_ret ?_
    try simp only [thenK_ret, blockT_ret, loopT_ret]
    -- leaf 1: ret
    refine owes_pure (.inr rfl) hwf rfl ?_ ?_ ?_
    · simp [frzVs, frzV, frz]
      repeat (first | exact AS.Ext.refl _ | refine AS.Ext.kill (by simp) ?_ | refine AS.Ext.bump ?_ | refine AS.Ext.setBox (by simp) ?_)
    · simpa [frzVs, frzV, frz, sl_cons] using hbel
    · simp [frzVs, frzV, frz, packed, sl_cons]

theorem cloneOps (H : AS) (c : Nat) (rows : List (List PV)) (hr : ∀ x ∈ rows, ∀ p ∈ x, Frozen p) (hn : rows.length * 88 ≤ 2 ^ 47) : ACalls Try.prog 22 [PV.sl c 10 rows] H fun q H' => q = PV.sl H.color 10 rows ∧ H' = H := by
  cases rows with
  | nil => exact cloneOps_nil H
  | cons r rs => exact cloneOps_cons H c r rs hr hn

set_option maxRecDepth 100000 in
theorem cloneLoops_cons (H : AS) (c : Nat) (r : List PV) (rs : List (List PV)) (hr : ∀ x ∈ r :: rs, ∀ p ∈ x, Frozen p) (hn : (r :: rs).length * 24 ≤ 2 ^ 47) : ACalls Try.prog 23 [.slice c 3 (r :: rs)] H fun q H' => q = .slice H.color 3 (r :: rs) ∧ H' = H := by
  refine ACalls_intro Try.func23 rfl (by kernel_rfl) (by simp) fun hwf hbel => ?_
  refine T_seqk fun K0 hK0 => ?_
  refine T_regionL ?_ ?_
  · kernel_rfl
  simp [↓put_at, ↓AF.ev_tmp, ↓ex_cons, ↓ex_nil, ↓ex_assign, ↓AF.ev_slice, frame0]
  refine hK0 _ _ ?_
  try clear hK0 K0
  refine T_seqk fun K1 hK1 => ?_
  refine T_seqk fun K2 hK2 => ?_
  refine T_regionL ?_ ?_
  · kernel_rfl
  simp [↓put_at, ↓AF.ev_tmp, ↓ex_cons, ↓ex_nil, ↓ex_move, ↓ex_binOp, ↓AF.ev_slice, aBin, aBinV, frame0, aNilTest]
  refine hK2 _ _ ?_
  try clear hK2 K2
  refine T_cond rfl (fun c0 => ?_) (fun c0 => ?_)
  · cases c0 --done
  · refine T_skip ?_
    simp only [thenK_normal, blockT_normal, loopT_normal]
    refine hK1 _ _ ?_
    try clear hK1 K1
    refine T_seqk fun K3 hK3 => ?_
    refine T_regionL ?_ ?_
    · kernel_rfl
    simp [↓put_at, ↓AF.ev_tmp, ↓ex_cons, ↓ex_nil, ↓ex_buildSlice, ↓ex_move, ↓ex_append, ↓ex_assign, abuildSlice, frame0, abuildSlice, appendK_eq, aappend, srcOf, frzR_id hr]
    refine ⟨by simpa using hn, ?_⟩
    refine hK3 _ _ ?_
    try clear hK3 K3
    refine T_ret ?_
    try simp only [thenK_ret, blockT_ret, loopT_ret]
    -- leaf 0: ret
    refine owes_pure (.inr rfl) hwf rfl ?_ ?_ ?_
    · simp [frzVs, frzV, frz]
      repeat (first | exact AS.Ext.refl _ | refine AS.Ext.kill (by simp) ?_ | refine AS.Ext.bump ?_ | refine AS.Ext.setBox (by simp) ?_)
    · simpa [frzVs, frzV, frz, sl_cons] using hbel
    · simp [frzVs, frzV, frz, packed, sl_cons]

set_option maxRecDepth 100000 in
theorem cloneLoops_nil (H : AS)  : ACalls Try.prog 23 [.nilS] H fun q H' => q = .nilS ∧ H' = H := by
  refine ACalls_intro Try.func23 rfl (by kernel_rfl) (by simp) fun hwf hbel => ?_
  refine T_seqk fun K0 hK0 => ?_
  refine T_regionL ?_ ?_
  · kernel_rfl
  simp [↓put_at, ↓AF.ev_tmp, ↓ex_cons, ↓ex_nil, ↓ex_assign, ↓AF.ev_slice, frame0]
  refine hK0 _ _ ?_
  try clear hK0 K0
  refine T_seqk fun K1 hK1 => ?_
  refine T_seqk fun K2 hK2 => ?_
  refine T_regionL ?_ ?_
  · kernel_rfl
  simp [↓put_at, ↓AF.ev_tmp, ↓ex_cons, ↓ex_nil, ↓ex_move, ↓ex_binOp, ↓AF.ev_slice, aBin, aBinV, frame0, aNilTest]
  suffices key : ∀ b : Bool, K2 (((((frame0 [PV.nilS]).put (some 2) (PV.val (.slice none 0 0))).put (some 3) PV.nilS)).put (some 4) (pb b)) H from ⟨key _, key _⟩
  intro b
  refine hK2 _ _ ?_
  try clear hK2 K2
  refine T_cond rfl (fun c0 => ?_) (fun c0 => ?_)
  · refine T_seqk fun K3 hK3 => ?_
    refine T_regionL ?_ ?_
    · kernel_rfl
    simp [↓put_at, ↓AF.ev_tmp, ↓ex_cons, ↓ex_nil, ↓ex_assign, ↓AF.ev_slice, frame0]
    refine hK3 _ _ ?_
    try clear hK3 K3
    refine T_ret ?_
    try simp only [thenK_ret, blockT_ret, loopT_ret]
    -- leaf 0: ret
    refine owes_pure (.inr rfl) hwf rfl ?_ ?_ ?_
    · simp [frzVs, frzV, frz]
      repeat (first | exact AS.Ext.refl _ | refine AS.Ext.kill (by simp) ?_ | refine AS.Ext.bump ?_ | refine AS.Ext.setBox (by simp) ?_)
    · simpa [frzVs, frzV, frz, sl_cons] using hbel
    · simp [frzVs, frzV, frz, packed, sl_cons]
  · refine T_skip ?_
    simp only [thenK_normal, blockT_normal, loopT_normal]
    refine hK1 _ _ ?_
    try clear hK1 K1
    refine T_seqk fun K4 hK4 => ?_
    refine T_regionL ?_ ?_
    · kernel_rfl
    simp [↓put_at, ↓AF.ev_tmp, ↓ex_cons, ↓ex_nil, ↓ex_buildSlice, ↓ex_move, ↓ex_append, ↓ex_assign, abuildSlice, frame0, abuildSlice, appendK_eq, aappend, srcOf]
    refine hK4 _ _ ?_
    try clear hK4 K4
    refine T_ret ?_
    try simp only [thenK_ret, blockT_ret, loopT_ret]
    -- leaf 1: ret
    refine owes_pure (.inr rfl) hwf rfl ?_ ?_ ?_
    · simp [frzVs, frzV, frz]
      repeat (first | exact AS.Ext.refl _ | refine AS.Ext.kill (by simp) ?_ | refine AS.Ext.bump ?_ | refine AS.Ext.setBox (by simp) ?_)
    · simpa [frzVs, frzV, frz, sl_cons] using hbel
    · simp [frzVs, frzV, frz, packed, sl_cons]

theorem cloneLoops (H : AS) (c : Nat) (rows : List (List PV)) (hr : ∀ x ∈ rows, ∀ p ∈ x, Frozen p) (hn : rows.length * 24 ≤ 2 ^ 47) : ACalls Try.prog 23 [PV.sl c 3 rows] H fun q H' => q = PV.sl H.color 3 rows ∧ H' = H := by
  cases rows with
  | nil => exact cloneLoops_nil H
  | cons r rs => exact cloneLoops_cons H c r rs hr hn

set_option maxRecDepth 100000 in
theorem cloneInts_cons (H : AS) (c : Nat) (r : List PV) (rs : List (List PV)) (hr : ∀ x ∈ r :: rs, ∀ p ∈ x, Frozen p) (hn : (r :: rs).length * 8 ≤ 2 ^ 47) : ACalls Try.prog 9 [.slice c 1 (r :: rs)] H fun q H' => q = .slice H.color 1 (r :: rs) ∧ H' = H := by
  refine ACalls_intro Try.func9 rfl (by kernel_rfl) (by simp) fun hwf hbel => ?_
  refine T_seqk fun K0 hK0 => ?_
  refine T_regionL ?_ ?_
  · kernel_rfl
  simp [↓put_at, ↓AF.ev_tmp, ↓ex_cons, ↓ex_nil, ↓ex_assign, ↓AF.ev_slice, frame0]
  refine hK0 _ _ ?_
  try clear hK0 K0
  refine T_seqk fun K1 hK1 => ?_
  refine T_seqk fun K2 hK2 => ?_
  refine T_regionL ?_ ?_
  · kernel_rfl
  simp [↓put_at, ↓AF.ev_tmp, ↓ex_cons, ↓ex_nil, ↓ex_move, ↓ex_binOp, ↓AF.ev_slice, aBin, aBinV, frame0, aNilTest]
  refine hK2 _ _ ?_
  try clear hK2 K2
  refine T_cond rfl (fun c0 => ?_) (fun c0 => ?_)
  · cases c0 --done
  · refine T_skip ?_
    simp only [thenK_normal, blockT_normal, loopT_normal]
    refine hK1 _ _ ?_
    try clear hK1 K1
    refine T_seqk fun K3 hK3 => ?_
    refine T_regionL ?_ ?_
    · kernel_rfl
    simp [↓put_at, ↓AF.ev_tmp, ↓ex_cons, ↓ex_nil, ↓ex_buildSlice, ↓ex_move, ↓ex_append, ↓ex_assign, abuildSlice, frame0, abuildSlice, appendK_eq, aappend, srcOf, frzR_id hr]
    refine ⟨by simpa using hn, ?_⟩
    refine hK3 _ _ ?_
    try clear hK3 K3
    refine T_ret ?_
    try simp only [thenK_ret, blockT_ret, loopT_ret]
    -- leaf 0: ret
    refine owes_pure (.inr rfl) hwf rfl ?_ ?_ ?_
    · simp [frzVs, frzV, frz]
      repeat (first | exact AS.Ext.refl _ | refine AS.Ext.kill (by simp) ?_ | refine AS.Ext.bump ?_ | refine AS.Ext.setBox (by simp) ?_)
    · simpa [frzVs, frzV, frz, sl_cons] using hbel
    · simp [frzVs, frzV, frz, packed, sl_cons]

set_option maxRecDepth 100000 in
theorem cloneInts_nil (H : AS)  : ACalls Try.prog 9 [.nilS] H fun q H' => q = .nilS ∧ H' = H := by
  refine ACalls_intro Try.func9 rfl (by kernel_rfl) (by simp) fun hwf hbel => ?_
  refine T_seqk fun K0 hK0 => ?_
  refine T_regionL ?_ ?_
  · kernel_rfl
  simp [↓put_at, ↓AF.ev_tmp, ↓ex_cons, ↓ex_nil, ↓ex_assign, ↓AF.ev_slice, frame0]
  refine hK0 _ _ ?_
  try clear hK0 K0
  refine T_seqk fun K1 hK1 => ?_
  refine T_seqk fun K2 hK2 => ?_
  refine T_regionL ?_ ?_
  · kernel_rfl
  simp [↓put_at, ↓AF.ev_tmp, ↓ex_cons, ↓ex_nil, ↓ex_move, ↓ex_binOp, ↓AF.ev_slice, aBin, aBinV, frame0, aNilTest]
  suffices key : ∀ b : Bool, K2 (((((frame0 [PV.nilS]).put (some 2) (PV.val (.slice none 0 0))).put (some 3) PV.nilS)).put (some 4) (pb b)) H from ⟨key _, key _⟩
  intro b
  refine hK2 _ _ ?_
  try clear hK2 K2
  refine T_cond rfl (fun c0 => ?_) (fun c0 => ?_)
  · refine T_seqk fun K3 hK3 => ?_
    refine T_regionL ?_ ?_
    · kernel_rfl
    simp [↓put_at, ↓AF.ev_tmp, ↓ex_cons, ↓ex_nil, ↓ex_assign, ↓AF.ev_slice, frame0]
    refine hK3 _ _ ?_
    try clear hK3 K3
    refine T_ret ?_
    try simp only [thenK_ret, blockT_ret, loopT_ret]
    -- leaf 0: ret
    refine owes_pure (.inr rfl) hwf rfl ?_ ?_ ?_
    · simp [frzVs, frzV, frz]
      repeat (first | exact AS.Ext.refl _ | refine AS.Ext.kill (by simp) ?_ | refine AS.Ext.bump ?_ | refine AS.Ext.setBox (by simp) ?_)
    · simpa [frzVs, frzV, frz, sl_cons] using hbel
    · simp [frzVs, frzV, frz, packed, sl_cons]
  · refine T_skip ?_
    simp only [thenK_normal, blockT_normal, loopT_normal]
    refine hK1 _ _ ?_
    try clear hK1 K1
    refine T_seqk fun K4 hK4 => ?_
    refine T_regionL ?_ ?_
    · kernel_rfl
    simp [↓put_at, ↓AF.ev_tmp, ↓ex_cons, ↓ex_nil, ↓ex_buildSlice, ↓ex_move, ↓ex_append, ↓ex_assign, abuildSlice, frame0, abuildSlice, appendK_eq, aappend, srcOf]
    refine hK4 _ _ ?_
    try clear hK4 K4
    refine T_ret ?_
    try simp only [thenK_ret, blockT_ret, loopT_ret]
    -- leaf 1: ret
    refine owes_pure (.inr rfl) hwf rfl ?_ ?_ ?_
    · simp [frzVs, frzV, frz]
      repeat (first | exact AS.Ext.refl _ | refine AS.Ext.kill (by simp) ?_ | refine AS.Ext.bump ?_ | refine AS.Ext.setBox (by simp) ?_)
    · simpa [frzVs, frzV, frz, sl_cons] using hbel
    · simp [frzVs, frzV, frz, packed, sl_cons]

theorem cloneInts (H : AS) (c : Nat) (rows : List (List PV)) (hr : ∀ x ∈ rows, ∀ p ∈ x, Frozen p) (hn : rows.length * 8 ≤ 2 ^ 47) : ACalls Try.prog 9 [PV.sl c 1 rows] H fun q H' => q = PV.sl H.color 1 rows ∧ H' = H := by
  cases rows with
  | nil => exact cloneInts_nil H
  | cons r rs => exact cloneInts_cons H c r rs hr hn

end Go.Abs
