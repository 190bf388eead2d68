import Derived.Test.YtbngednclmjfoaaD1
namespace Go.Abs
open Go.Proofs
set_option autoImplicit false
set_option linter.all false
theorem map_get {α : Type} {xs : List α} {f : α → List PV} {i : Nat} (h : i < xs.length) : (xs.map f)[i]? = some (f xs[i]) := by simp [h]

set_option maxRecDepth 100000 in
theorem eqInts (H : AS) (c d : Nat) (xs ys : List Int) (hx : xs.length < 2 ^ 62) : ACalls Try.prog 20 [PV.sl c 1 (xs.map irow), PV.sl d 1 (ys.map irow)] H fun r H' => r = .val (.bool (decide (xs = ys))) ∧ H' = H := by
  refine ACalls_intro Try.func20 rfl (by kernel_rfl) (by simp) fun hwf hbel => ?_
  refine T_seqk fun K0 hK0 => ?_
  refine T_regionL ?_ ?_
  · kernel_rfl
  simp [↓put_at, ↓AF.ev_tmp, ↓ex_cons, ↓ex_nil, ↓ex_assign, ↓AF.ev_bool, frame0]
  refine hK0 _ _ ?_
  try clear hK0 K0
  refine T_seqk fun K1 hK1 => ?_
  refine T_seqk fun K2 hK2 => ?_
  refine T_regionL ?_ ?_
  · kernel_rfl
  simp [↓put_at, ↓AF.ev_tmp, ↓ex_cons, ↓ex_nil, ↓ex_move, ↓ex_len, ↓ex_binOp, aLen, aBin, aBinV, frame0]
  refine hK2 _ _ ?_
  try clear hK2 K2
  refine T_cond rfl (fun c0 => ?_) (fun c0 => ?_)
  · simp at c0
    refine T_seqk fun K3 hK3 => ?_
    refine T_regionL ?_ ?_
    · kernel_rfl
    simp [↓put_at, ↓AF.ev_tmp, ↓ex_cons, ↓ex_nil, ↓ex_assign, ↓AF.ev_bool, frame0]
    refine hK3 _ _ ?_
    try clear hK3 K3
    refine T_ret ?_
    try simp only [thenK_ret, blockT_ret, loopT_ret]
    -- leaf 0: ret
    refine owes_pure (.inr rfl) hwf rfl ?_ ?_ ?_
    · simp [frzVs, frzV, frz]; exact .refl _
    · simp [frzVs, frzV, frz]
    simp [frzVs, frzV, frz, packed]
    intro e; subst e; simp at c0
  · have hyl : ys.length = xs.length := by simp at c0; omega
    refine T_skip ?_
    simp only [thenK_normal, blockT_normal, loopT_normal]
    refine hK1 _ _ ?_
    try clear hK1 K1
    refine T_seqk fun K4 hK4 => ?_
    refine T_seqk fun K5 hK5 => ?_
    refine T_regionL ?_ ?_
    · kernel_rfl
    simp [↓put_at, ↓AF.ev_tmp, ↓ex_cons, ↓ex_nil, ↓ex_move, ↓ex_len, ↓AF.ev_int, aLen, frame0]
    refine hK5 _ _ ?_
    try clear hK5 K5
    refine T_block ?_
    refine T_loop (fun k F H' => ∃ i : Nat, k = xs.length - i ∧ i ≤ xs.length ∧ F 0 = PV.sl c 1 (xs.map irow) ∧ F 1 = PV.sl d 1 (ys.map irow) ∧ F 12 = .val (.int .i64 xs.length) ∧ F 13 = .val (.int .i64 i) ∧ H = H' ∧ xs.take i = ys.take i) (xs.length) ?_ ?_
    · refine ⟨0, ?_⟩
      simp [frame0]
    · rintro k F H' ⟨i, rfl, hi, h0, h1, h12, h13, rfl, htake⟩
      refine T_seqk fun K6 hK6 => ?_
      refine T_regionL ?_ ?_
      · kernel_rfl
      simp [↓put_at, ↓AF.ev_tmp, ↓ex_cons, ↓ex_nil, ↓ex_binOp, aBin, aBinV, frame0, h0, h1, h12, h13]
      refine hK6 _ _ ?_
      try clear hK6 K6
      refine T_seqk fun K7 hK7 => ?_
      refine T_cond rfl (fun c1 => ?_) (fun c1 => ?_)
      · have hlt : i < xs.length := by simpa using c1
        refine T_skip ?_
        simp only [thenK_normal, blockT_normal, loopT_normal]
        refine hK7 _ _ ?_
        try clear hK7 K7
        refine T_seqk fun K8 hK8 => ?_
        refine T_block ?_
        refine T_seqk fun K9 hK9 => ?_
        refine T_regionL ?_ ?_
        · kernel_rfl
        simp [↓put_at, ↓AF.ev_tmp, ↓ex_cons, ↓ex_nil, ↓ex_move, ↓ex_assign, frame0, h0, h1, h12, h13]
        refine hK9 _ _ ?_
        try clear hK9 K9
        refine T_seqk fun K10 hK10 => ?_
        refine T_draw (fun _ => True) [] (.free 0 (.free 1 (.free 2 (.free 3 (.free 4 (.free 5 (.free 6 (.free 7 (.free 8 .done))))))))) mix ?_ ?_ ?_
        · kernel_rfl
        · kernel_rfl
        have hlt' : i < ys.length := by omega
        simp [↓put_at, ↓AF.ev_tmp, ↓wk_free, ↓wk_sole, ↓wk_done, ↓wanted_none, Keeps, Same, ↓wk_move, ↓wk_indexAddr, ↓wk_load, ↓wk_binOp, aIndexAddr, aload, aBin, aBinV, frame0, h0, h1, h12, h13, aIndexAddr, sl_get (map_get (f := irow) hlt), sl_get (map_get (f := irow) hlt'), aload, part_int, aBin, aBinV]
        refine hK10 _ _ ?_
        try clear hK10 K10
        refine T_cond rfl (fun c2 => ?_) (fun c2 => ?_)
        · refine T_seqk fun K11 hK11 => ?_
          refine T_regionL ?_ ?_
          · kernel_rfl
          simp [↓put_at, ↓AF.ev_tmp, ↓ex_cons, ↓ex_nil, ↓ex_assign, ↓AF.ev_bool, frame0, h0, h1, h12, h13]
          refine hK11 _ _ ?_
          try clear hK11 K11
          refine T_ret ?_
          try simp only [thenK_ret, blockT_ret, loopT_ret]
          -- leaf 1: ret
          refine owes_pure (.inr rfl) hwf rfl ?_ ?_ ?_
          · simp [frzVs, frzV, frz]; exact .refl _
          · simp [frzVs, frzV, frz]
          simp [frzVs, frzV, frz, packed]
          intro e; subst e; simp at c2
        · have heq : xs[i] = ys[i] := by simpa using c2
          refine T_skip ?_
          simp only [thenK_normal, blockT_normal, loopT_normal]
          refine hK8 _ _ ?_
          try clear hK8 K8
          refine T_regionL ?_ ?_
          · kernel_rfl
          simp [↓put_at, ↓AF.ev_tmp, ↓ex_cons, ↓ex_nil, ↓ex_binOp, ↓AF.ev_int, ↓ex_move, aBin, aBinV, frame0, h0, h1, h12, h13]
          -- end of a round of loop 0
          refine ⟨xs.length - (i + 1), by omega, i + 1, rfl, by omega, ?_⟩
          simp [h0, h1, h12, h13]
          rw [wrap_i64 (by omega) (by omega)]
          refine ⟨rfl, ?_⟩
          rw [List.take_succ_eq_append_getElem hlt, List.take_succ_eq_append_getElem hlt', htake, heq]
      · have hge : xs.length ≤ i := by simpa using c1
        refine T_exit ?_
        try simp only [thenK_exit, blockT_exit, loopT_exit, if_true, Nat.reduceEqDiff, if_false, reduceIte, thenK_normal, blockT_normal, loopT_normal]
        refine hK4 _ _ ?_
        try clear hK4 K4
        refine T_seqk fun K12 hK12 => ?_
        refine T_regionL ?_ ?_
        · kernel_rfl
        simp [↓put_at, ↓AF.ev_tmp, ↓ex_cons, ↓ex_nil, ↓ex_assign, ↓AF.ev_bool, frame0, h0, h1, h12, h13]
        refine hK12 _ _ ?_
        try clear hK12 K12
        refine T_ret ?_
        try simp only [thenK_ret, blockT_ret, loopT_ret]
        -- leaf 2: ret
        refine owes_pure (.inr rfl) hwf rfl ?_ ?_ ?_
        · simp [frzVs, frzV, frz]; exact .refl _
        · simp [frzVs, frzV, frz]
        simp [frzVs, frzV, frz, packed]
        rw [List.take_of_length_le hge, List.take_of_length_le (by omega)] at htake
        exact htake

set_option maxRecDepth 100000 in
theorem eqCells (H : AS) (c d : Nat) (xs ys : List DCell) (hx : xs.length < 2 ^ 62) : ACalls Try.prog 10 [PV.sl c 11 (xs.map DCell.row), PV.sl d 11 (ys.map DCell.row)] H fun r H' => r = .val (.bool (decide (xs = ys))) ∧ H' = H := by
  refine ACalls_intro Try.func10 rfl (by kernel_rfl) (by simp) fun hwf hbel => ?_
  refine T_seqk fun K0 hK0 => ?_
  refine T_regionL ?_ ?_
  · kernel_rfl
  simp [↓put_at, ↓AF.ev_tmp, ↓ex_cons, ↓ex_nil, ↓ex_assign, ↓AF.ev_bool, frame0]
  refine hK0 _ _ ?_
  try clear hK0 K0
  refine T_seqk fun K1 hK1 => ?_
  refine T_seqk fun K2 hK2 => ?_
  refine T_regionL ?_ ?_
  · kernel_rfl
  simp [↓put_at, ↓AF.ev_tmp, ↓ex_cons, ↓ex_nil, ↓ex_move, ↓ex_len, ↓ex_binOp, aLen, aBin, aBinV, frame0]
  refine hK2 _ _ ?_
  try clear hK2 K2
  refine T_cond rfl (fun c0 => ?_) (fun c0 => ?_)
  · simp at c0
    refine T_seqk fun K3 hK3 => ?_
    refine T_regionL ?_ ?_
    · kernel_rfl
    simp [↓put_at, ↓AF.ev_tmp, ↓ex_cons, ↓ex_nil, ↓ex_assign, ↓AF.ev_bool, frame0]
    refine hK3 _ _ ?_
    try clear hK3 K3
    refine T_ret ?_
    try simp only [thenK_ret, blockT_ret, loopT_ret]
    -- leaf 0: ret
    refine owes_pure (.inr rfl) hwf rfl ?_ ?_ ?_
    · simp [frzVs, frzV, frz]; exact .refl _
    · simp [frzVs, frzV, frz]
    simp [frzVs, frzV, frz, packed]
    intro e; subst e; simp at c0
  · have hyl : ys.length = xs.length := by simp at c0; omega
    refine T_skip ?_
    simp only [thenK_normal, blockT_normal, loopT_normal]
    refine hK1 _ _ ?_
    try clear hK1 K1
    refine T_seqk fun K4 hK4 => ?_
    refine T_seqk fun K5 hK5 => ?_
    refine T_regionL ?_ ?_
    · kernel_rfl
    simp [↓put_at, ↓AF.ev_tmp, ↓ex_cons, ↓ex_nil, ↓ex_move, ↓ex_len, ↓AF.ev_int, aLen, frame0]
    refine hK5 _ _ ?_
    try clear hK5 K5
    refine T_block ?_
    refine T_loop (fun k F H' => ∃ i : Nat, k = xs.length - i ∧ i ≤ xs.length ∧ F 0 = PV.sl c 11 (xs.map DCell.row) ∧ F 1 = PV.sl d 11 (ys.map DCell.row) ∧ F 12 = .val (.int .i64 xs.length) ∧ F 13 = .val (.int .i64 i) ∧ H = H' ∧ xs.take i = ys.take i) (xs.length) ?_ ?_
    · refine ⟨0, ?_⟩
      simp [frame0]
    · rintro k F H' ⟨i, rfl, hi, h0, h1, h12, h13, rfl, htake⟩
      refine T_seqk fun K6 hK6 => ?_
      refine T_regionL ?_ ?_
      · kernel_rfl
      simp [↓put_at, ↓AF.ev_tmp, ↓ex_cons, ↓ex_nil, ↓ex_binOp, aBin, aBinV, frame0, h0, h1, h12, h13]
      refine hK6 _ _ ?_
      try clear hK6 K6
      refine T_seqk fun K7 hK7 => ?_
      refine T_cond rfl (fun c1 => ?_) (fun c1 => ?_)
      · have hlt : i < xs.length := by simpa using c1
        refine T_skip ?_
        simp only [thenK_normal, blockT_normal, loopT_normal]
        refine hK7 _ _ ?_
        try clear hK7 K7
        refine T_seqk fun K8 hK8 => ?_
        refine T_block ?_
        refine T_seqk fun K9 hK9 => ?_
        refine T_regionL ?_ ?_
        · kernel_rfl
        simp [↓put_at, ↓AF.ev_tmp, ↓ex_cons, ↓ex_nil, ↓ex_move, ↓ex_assign, frame0, h0, h1, h12, h13]
        refine hK9 _ _ ?_
        try clear hK9 K9
        refine T_seqk fun K10 hK10 => ?_
        refine T_draw (fun _ => True) [] (.free 0 (.free 1 (.free 2 (.free 3 (.free 4 (.free 5 (.free 6 (.free 7 (.free 8 .done))))))))) mix ?_ ?_ ?_
        · kernel_rfl
        · kernel_rfl
        have hlt' : i < ys.length := by omega
        simp [↓put_at, ↓AF.ev_tmp, ↓wk_free, ↓wk_sole, ↓wk_done, ↓wanted_none, Keeps, Same, ↓wk_move, ↓wk_indexAddr, ↓wk_load, ↓wk_binOp, aIndexAddr, aload, aBin, aBinV, frame0, h0, h1, h12, h13, aIndexAddr, sl_get (map_get (f := DCell.row) hlt), sl_get (map_get (f := DCell.row) hlt'), aload, part_cell, aBin, eqCell]
        refine hK10 _ _ ?_
        try clear hK10 K10
        refine T_cond rfl (fun c2 => ?_) (fun c2 => ?_)
        · refine T_seqk fun K11 hK11 => ?_
          refine T_regionL ?_ ?_
          · kernel_rfl
          simp [↓put_at, ↓AF.ev_tmp, ↓ex_cons, ↓ex_nil, ↓ex_assign, ↓AF.ev_bool, frame0, h0, h1, h12, h13]
          refine hK11 _ _ ?_
          try clear hK11 K11
          refine T_ret ?_
          try simp only [thenK_ret, blockT_ret, loopT_ret]
          -- leaf 1: ret
          refine owes_pure (.inr rfl) hwf rfl ?_ ?_ ?_
          · simp [frzVs, frzV, frz]; exact .refl _
          · simp [frzVs, frzV, frz]
          simp [frzVs, frzV, frz, packed]
          intro e; subst e; simp at c2
        · have heq : xs[i] = ys[i] := by simpa using c2
          refine T_skip ?_
          simp only [thenK_normal, blockT_normal, loopT_normal]
          refine hK8 _ _ ?_
          try clear hK8 K8
          refine T_regionL ?_ ?_
          · kernel_rfl
          simp [↓put_at, ↓AF.ev_tmp, ↓ex_cons, ↓ex_nil, ↓ex_binOp, ↓AF.ev_int, ↓ex_move, aBin, aBinV, frame0, h0, h1, h12, h13]
          -- end of a round of loop 0
          refine ⟨xs.length - (i + 1), by omega, i + 1, rfl, by omega, ?_⟩
          simp [h0, h1, h12, h13]
          rw [wrap_i64 (by omega) (by omega)]
          refine ⟨rfl, ?_⟩
          rw [List.take_succ_eq_append_getElem hlt, List.take_succ_eq_append_getElem hlt', htake, heq]
      · have hge : xs.length ≤ i := by simpa using c1
        refine T_exit ?_
        try simp only [thenK_exit, blockT_exit, loopT_exit, if_true, Nat.reduceEqDiff, if_false, reduceIte, thenK_normal, blockT_normal, loopT_normal]
        refine hK4 _ _ ?_
        try clear hK4 K4
        refine T_seqk fun K12 hK12 => ?_
        refine T_regionL ?_ ?_
        · kernel_rfl
        simp [↓put_at, ↓AF.ev_tmp, ↓ex_cons, ↓ex_nil, ↓ex_assign, ↓AF.ev_bool, frame0, h0, h1, h12, h13]
        refine hK12 _ _ ?_
        try clear hK12 K12
        refine T_ret ?_
        try simp only [thenK_ret, blockT_ret, loopT_ret]
        -- leaf 2: ret
        refine owes_pure (.inr rfl) hwf rfl ?_ ?_ ?_
        · simp [frzVs, frzV, frz]; exact .refl _
        · simp [frzVs, frzV, frz]
        simp [frzVs, frzV, frz, packed]
        rw [List.take_of_length_le hge, List.take_of_length_le (by omega)] at htake
        exact htake

set_option maxRecDepth 100000 in
theorem eqOps (H : AS) (c d : Nat) (xs ys : List DOp) (hx : xs.length < 2 ^ 62) : ACalls Try.prog 18 [PV.sl c 10 (xs.map DOp.row), PV.sl d 10 (ys.map DOp.row)] H fun r H' => r = .val (.bool (decide (xs = ys))) ∧ H' = H := by
  refine ACalls_intro Try.func18 rfl (by kernel_rfl) (by simp) fun hwf hbel => ?_
  refine T_seqk fun K0 hK0 => ?_
  refine T_regionL ?_ ?_
  · kernel_rfl
  simp [↓put_at, ↓AF.ev_tmp, ↓ex_cons, ↓ex_nil, ↓ex_assign, ↓AF.ev_bool, frame0]
  refine hK0 _ _ ?_
  try clear hK0 K0
  refine T_seqk fun K1 hK1 => ?_
  refine T_seqk fun K2 hK2 => ?_
  refine T_regionL ?_ ?_
  · kernel_rfl
  simp [↓put_at, ↓AF.ev_tmp, ↓ex_cons, ↓ex_nil, ↓ex_move, ↓ex_len, ↓ex_binOp, aLen, aBin, aBinV, frame0]
  refine hK2 _ _ ?_
  try clear hK2 K2
  refine T_cond rfl (fun c0 => ?_) (fun c0 => ?_)
  · simp at c0
    refine T_seqk fun K3 hK3 => ?_
    refine T_regionL ?_ ?_
    · kernel_rfl
    simp [↓put_at, ↓AF.ev_tmp, ↓ex_cons, ↓ex_nil, ↓ex_assign, ↓AF.ev_bool, frame0]
    refine hK3 _ _ ?_
    try clear hK3 K3
    refine T_ret ?_
    try simp only [thenK_ret, blockT_ret, loopT_ret]
    -- leaf 0: ret
    refine owes_pure (.inr rfl) hwf rfl ?_ ?_ ?_
    · simp [frzVs, frzV, frz]; exact .refl _
    · simp [frzVs, frzV, frz]
    simp [frzVs, frzV, frz, packed]
    intro e; subst e; simp at c0
  · have hyl : ys.length = xs.length := by simp at c0; omega
    refine T_skip ?_
    simp only [thenK_normal, blockT_normal, loopT_normal]
    refine hK1 _ _ ?_
    try clear hK1 K1
    refine T_seqk fun K4 hK4 => ?_
    refine T_seqk fun K5 hK5 => ?_
    refine T_regionL ?_ ?_
    · kernel_rfl
    simp [↓put_at, ↓AF.ev_tmp, ↓ex_cons, ↓ex_nil, ↓ex_move, ↓ex_len, ↓AF.ev_int, aLen, frame0]
    refine hK5 _ _ ?_
    try clear hK5 K5
    refine T_block ?_
    refine T_loop (fun k F H' => ∃ i : Nat, k = xs.length - i ∧ i ≤ xs.length ∧ F 0 = PV.sl c 10 (xs.map DOp.row) ∧ F 1 = PV.sl d 10 (ys.map DOp.row) ∧ F 12 = .val (.int .i64 xs.length) ∧ F 13 = .val (.int .i64 i) ∧ H = H' ∧ xs.take i = ys.take i) (xs.length) ?_ ?_
    · refine ⟨0, ?_⟩
      simp [frame0]
    · rintro k F H' ⟨i, rfl, hi, h0, h1, h12, h13, rfl, htake⟩
      refine T_seqk fun K6 hK6 => ?_
      refine T_regionL ?_ ?_
      · kernel_rfl
      simp [↓put_at, ↓AF.ev_tmp, ↓ex_cons, ↓ex_nil, ↓ex_binOp, aBin, aBinV, frame0, h0, h1, h12, h13]
      refine hK6 _ _ ?_
      try clear hK6 K6
      refine T_seqk fun K7 hK7 => ?_
      refine T_cond rfl (fun c1 => ?_) (fun c1 => ?_)
      · have hlt : i < xs.length := by simpa using c1
        refine T_skip ?_
        simp only [thenK_normal, blockT_normal, loopT_normal]
        refine hK7 _ _ ?_
        try clear hK7 K7
        refine T_seqk fun K8 hK8 => ?_
        refine T_block ?_
        refine T_seqk fun K9 hK9 => ?_
        refine T_regionL ?_ ?_
        · kernel_rfl
        simp [↓put_at, ↓AF.ev_tmp, ↓ex_cons, ↓ex_nil, ↓ex_move, ↓ex_assign, frame0, h0, h1, h12, h13]
        refine hK9 _ _ ?_
        try clear hK9 K9
        refine T_seqk fun K10 hK10 => ?_
        refine T_draw (fun _ => True) [] (.free 0 (.free 1 (.free 2 (.free 3 (.free 4 (.free 5 (.free 6 (.free 7 (.free 8 .done))))))))) mix ?_ ?_ ?_
        · kernel_rfl
        · kernel_rfl
        have hlt' : i < ys.length := by omega
        simp [↓put_at, ↓AF.ev_tmp, ↓wk_free, ↓wk_sole, ↓wk_done, ↓wanted_none, Keeps, Same, ↓wk_move, ↓wk_indexAddr, ↓wk_load, ↓wk_binOp, aIndexAddr, aload, aBin, aBinV, frame0, h0, h1, h12, h13, aIndexAddr, sl_get (map_get (f := DOp.row) hlt), sl_get (map_get (f := DOp.row) hlt'), aload, part_op, aBin, eqOp]
        refine hK10 _ _ ?_
        try clear hK10 K10
        refine T_cond rfl (fun c2 => ?_) (fun c2 => ?_)
        · refine T_seqk fun K11 hK11 => ?_
          refine T_regionL ?_ ?_
          · kernel_rfl
          simp [↓put_at, ↓AF.ev_tmp, ↓ex_cons, ↓ex_nil, ↓ex_assign, ↓AF.ev_bool, frame0, h0, h1, h12, h13]
          refine hK11 _ _ ?_
          try clear hK11 K11
          refine T_ret ?_
          try simp only [thenK_ret, blockT_ret, loopT_ret]
          -- leaf 1: ret
          refine owes_pure (.inr rfl) hwf rfl ?_ ?_ ?_
          · simp [frzVs, frzV, frz]; exact .refl _
          · simp [frzVs, frzV, frz]
          simp [frzVs, frzV, frz, packed]
          intro e; subst e; simp at c2
        · have heq : xs[i] = ys[i] := by simpa using c2
          refine T_skip ?_
          simp only [thenK_normal, blockT_normal, loopT_normal]
          refine hK8 _ _ ?_
          try clear hK8 K8
          refine T_regionL ?_ ?_
          · kernel_rfl
          simp [↓put_at, ↓AF.ev_tmp, ↓ex_cons, ↓ex_nil, ↓ex_binOp, ↓AF.ev_int, ↓ex_move, aBin, aBinV, frame0, h0, h1, h12, h13]
          -- end of a round of loop 0
          refine ⟨xs.length - (i + 1), by omega, i + 1, rfl, by omega, ?_⟩
          simp [h0, h1, h12, h13]
          rw [wrap_i64 (by omega) (by omega)]
          refine ⟨rfl, ?_⟩
          rw [List.take_succ_eq_append_getElem hlt, List.take_succ_eq_append_getElem hlt', htake, heq]
      · have hge : xs.length ≤ i := by simpa using c1
        refine T_exit ?_
        try simp only [thenK_exit, blockT_exit, loopT_exit, if_true, Nat.reduceEqDiff, if_false, reduceIte, thenK_normal, blockT_normal, loopT_normal]
        refine hK4 _ _ ?_
        try clear hK4 K4
        refine T_seqk fun K12 hK12 => ?_
        refine T_regionL ?_ ?_
        · kernel_rfl
        simp [↓put_at, ↓AF.ev_tmp, ↓ex_cons, ↓ex_nil, ↓ex_assign, ↓AF.ev_bool, frame0, h0, h1, h12, h13]
        refine hK12 _ _ ?_
        try clear hK12 K12
        refine T_ret ?_
        try simp only [thenK_ret, blockT_ret, loopT_ret]
        -- leaf 2: ret
        refine owes_pure (.inr rfl) hwf rfl ?_ ?_ ?_
        · simp [frzVs, frzV, frz]; exact .refl _
        · simp [frzVs, frzV, frz]
        simp [frzVs, frzV, frz, packed]
        rw [List.take_of_length_le hge, List.take_of_length_le (by omega)] at htake
        exact htake

set_option maxRecDepth 100000 in
theorem eqLoops (H : AS) (c d : Nat) (xs ys : List DLoop) (hx : xs.length < 2 ^ 62) : ACalls Try.prog 19 [PV.sl c 3 (xs.map DLoop.row), PV.sl d 3 (ys.map DLoop.row)] H fun r H' => r = .val (.bool (decide (xs = ys))) ∧ H' = H := by
  refine ACalls_intro Try.func19 rfl (by kernel_rfl) (by simp) fun hwf hbel => ?_
  refine T_seqk fun K0 hK0 => ?_
  refine T_regionL ?_ ?_
  · kernel_rfl
  simp [↓put_at, ↓AF.ev_tmp, ↓ex_cons, ↓ex_nil, ↓ex_assign, ↓AF.ev_bool, frame0]
  refine hK0 _ _ ?_
  try clear hK0 K0
  refine T_seqk fun K1 hK1 => ?_
  refine T_seqk fun K2 hK2 => ?_
  refine T_regionL ?_ ?_
  · kernel_rfl
  simp [↓put_at, ↓AF.ev_tmp, ↓ex_cons, ↓ex_nil, ↓ex_move, ↓ex_len, ↓ex_binOp, aLen, aBin, aBinV, frame0]
  refine hK2 _ _ ?_
  try clear hK2 K2
  refine T_cond rfl (fun c0 => ?_) (fun c0 => ?_)
  · simp at c0
    refine T_seqk fun K3 hK3 => ?_
    refine T_regionL ?_ ?_
    · kernel_rfl
    simp [↓put_at, ↓AF.ev_tmp, ↓ex_cons, ↓ex_nil, ↓ex_assign, ↓AF.ev_bool, frame0]
    refine hK3 _ _ ?_
    try clear hK3 K3
    refine T_ret ?_
    try simp only [thenK_ret, blockT_ret, loopT_ret]
    -- leaf 0: ret
    refine owes_pure (.inr rfl) hwf rfl ?_ ?_ ?_
    · simp [frzVs, frzV, frz]; exact .refl _
    · simp [frzVs, frzV, frz]
    simp [frzVs, frzV, frz, packed]
    intro e; subst e; simp at c0
  · have hyl : ys.length = xs.length := by simp at c0; omega
    refine T_skip ?_
    simp only [thenK_normal, blockT_normal, loopT_normal]
    refine hK1 _ _ ?_
    try clear hK1 K1
    refine T_seqk fun K4 hK4 => ?_
    refine T_seqk fun K5 hK5 => ?_
    refine T_regionL ?_ ?_
    · kernel_rfl
    simp [↓put_at, ↓AF.ev_tmp, ↓ex_cons, ↓ex_nil, ↓ex_move, ↓ex_len, ↓AF.ev_int, aLen, frame0]
    refine hK5 _ _ ?_
    try clear hK5 K5
    refine T_block ?_
    refine T_loop (fun k F H' => ∃ i : Nat, k = xs.length - i ∧ i ≤ xs.length ∧ F 0 = PV.sl c 3 (xs.map DLoop.row) ∧ F 1 = PV.sl d 3 (ys.map DLoop.row) ∧ F 12 = .val (.int .i64 xs.length) ∧ F 13 = .val (.int .i64 i) ∧ H = H' ∧ xs.take i = ys.take i) (xs.length) ?_ ?_
    · refine ⟨0, ?_⟩
      simp [frame0]
    · rintro k F H' ⟨i, rfl, hi, h0, h1, h12, h13, rfl, htake⟩
      refine T_seqk fun K6 hK6 => ?_
      refine T_regionL ?_ ?_
      · kernel_rfl
      simp [↓put_at, ↓AF.ev_tmp, ↓ex_cons, ↓ex_nil, ↓ex_binOp, aBin, aBinV, frame0, h0, h1, h12, h13]
      refine hK6 _ _ ?_
      try clear hK6 K6
      refine T_seqk fun K7 hK7 => ?_
      refine T_cond rfl (fun c1 => ?_) (fun c1 => ?_)
      · have hlt : i < xs.length := by simpa using c1
        refine T_skip ?_
        simp only [thenK_normal, blockT_normal, loopT_normal]
        refine hK7 _ _ ?_
        try clear hK7 K7
        refine T_seqk fun K8 hK8 => ?_
        refine T_block ?_
        refine T_seqk fun K9 hK9 => ?_
        refine T_regionL ?_ ?_
        · kernel_rfl
        simp [↓put_at, ↓AF.ev_tmp, ↓ex_cons, ↓ex_nil, ↓ex_move, ↓ex_assign, frame0, h0, h1, h12, h13]
        refine hK9 _ _ ?_
        try clear hK9 K9
        refine T_seqk fun K10 hK10 => ?_
        refine T_draw (fun _ => True) [] (.free 0 (.free 1 (.free 2 (.free 3 (.free 4 (.free 5 (.free 6 (.free 7 (.free 8 .done))))))))) mix ?_ ?_ ?_
        · kernel_rfl
        · kernel_rfl
        have hlt' : i < ys.length := by omega
        simp [↓put_at, ↓AF.ev_tmp, ↓wk_free, ↓wk_sole, ↓wk_done, ↓wanted_none, Keeps, Same, ↓wk_move, ↓wk_indexAddr, ↓wk_load, ↓wk_binOp, aIndexAddr, aload, aBin, aBinV, frame0, h0, h1, h12, h13, aIndexAddr, sl_get (map_get (f := DLoop.row) hlt), sl_get (map_get (f := DLoop.row) hlt'), aload, part_loop, aBin, eqLoop]
        refine hK10 _ _ ?_
        try clear hK10 K10
        refine T_cond rfl (fun c2 => ?_) (fun c2 => ?_)
        · refine T_seqk fun K11 hK11 => ?_
          refine T_regionL ?_ ?_
          · kernel_rfl
          simp [↓put_at, ↓AF.ev_tmp, ↓ex_cons, ↓ex_nil, ↓ex_assign, ↓AF.ev_bool, frame0, h0, h1, h12, h13]
          refine hK11 _ _ ?_
          try clear hK11 K11
          refine T_ret ?_
          try simp only [thenK_ret, blockT_ret, loopT_ret]
          -- leaf 1: ret
          refine owes_pure (.inr rfl) hwf rfl ?_ ?_ ?_
          · simp [frzVs, frzV, frz]; exact .refl _
          · simp [frzVs, frzV, frz]
          simp [frzVs, frzV, frz, packed]
          intro e; subst e; simp at c2
        · have heq : xs[i] = ys[i] := by simpa using c2
          refine T_skip ?_
          simp only [thenK_normal, blockT_normal, loopT_normal]
          refine hK8 _ _ ?_
          try clear hK8 K8
          refine T_regionL ?_ ?_
          · kernel_rfl
          simp [↓put_at, ↓AF.ev_tmp, ↓ex_cons, ↓ex_nil, ↓ex_binOp, ↓AF.ev_int, ↓ex_move, aBin, aBinV, frame0, h0, h1, h12, h13]
          -- end of a round of loop 0
          refine ⟨xs.length - (i + 1), by omega, i + 1, rfl, by omega, ?_⟩
          simp [h0, h1, h12, h13]
          rw [wrap_i64 (by omega) (by omega)]
          refine ⟨rfl, ?_⟩
          rw [List.take_succ_eq_append_getElem hlt, List.take_succ_eq_append_getElem hlt', htake, heq]
      · have hge : xs.length ≤ i := by simpa using c1
        refine T_exit ?_
        try simp only [thenK_exit, blockT_exit, loopT_exit, if_true, Nat.reduceEqDiff, if_false, reduceIte, thenK_normal, blockT_normal, loopT_normal]
        refine hK4 _ _ ?_
        try clear hK4 K4
        refine T_seqk fun K12 hK12 => ?_
        refine T_regionL ?_ ?_
        · kernel_rfl
        simp [↓put_at, ↓AF.ev_tmp, ↓ex_cons, ↓ex_nil, ↓ex_assign, ↓AF.ev_bool, frame0, h0, h1, h12, h13]
        refine hK12 _ _ ?_
        try clear hK12 K12
        refine T_ret ?_
        try simp only [thenK_ret, blockT_ret, loopT_ret]
        -- leaf 2: ret
        refine owes_pure (.inr rfl) hwf rfl ?_ ?_ ?_
        · simp [frzVs, frzV, frz]; exact .refl _
        · simp [frzVs, frzV, frz]
        simp [frzVs, frzV, frz, packed]
        rw [List.take_of_length_le hge, List.take_of_length_le (by omega)] at htake
        exact htake

end Go.Abs
