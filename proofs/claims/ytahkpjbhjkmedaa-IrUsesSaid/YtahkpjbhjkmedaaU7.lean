import Derived.Test.YtahkpjbhjkmedaaU6
namespace Go.Abs
open Go.Proofs
set_option autoImplicit false
set_option linter.all false
@[simp] theorem lenOf_msl (id n sz : Nat) : lenOf (.msl id n sz) = some n := rfl
theorem amsl {id n sz i : Nat} (h : i < n) : aindex sz (.msl id n sz) (i : Int) = some (.ptr id n i 0) := by
  unfold aindex; simp [h]
theorem part_int (n : Int) : partOf Try.prog 3 [pi n] 0 = some (pi n) := by simp [partOf]
set_option maxRecDepth 100000 in
theorem eqFrozen (H : AS) (d : Nat) (xs ys : List Int) (hx : xs.length < 2 ^ 62) (c : Nat) : ACalls Try.prog 6 [PV.sl c 1 (xs.map irow), PV.sl d 1 (ys.map irow)] H fun r H' => r = .val (.bool (decide (xs = ys))) ∧ H' = H := by
  refine ACalls_intro Try.func6 rfl (by kernel_rfl) (by simp) fun hwf hbel => ?_
  refine T_seqk fun K0 hK0 => ?_
  refine T_regionL ?_ ?_
  · kernel_rfl
  simp [↓put_at, ↓AF.ev_tmp, ↓ex_cons, ↓ex_nil, ↓ex_assign, ↓AF.ev_bool, frame0]
  refine hK0 _ _ ?_
  try clear hK0 K0
  refine T_seqk fun K1 hK1 => ?_
  refine T_seqk fun K2 hK2 => ?_
  refine T_regionL ?_ ?_
  · kernel_rfl
  simp [↓put_at, ↓AF.ev_tmp, ↓ex_cons, ↓ex_nil, ↓ex_move, ↓ex_len, ↓ex_binOp, aLen, aBin, aBinV, frame0]
  refine hK2 _ _ ?_
  try clear hK2 K2
  refine T_cond (rfl) (fun c0 => ?_) (fun c0 => ?_)
  · simp at c0
    refine T_seqk fun K3 hK3 => ?_
    refine T_regionL ?_ ?_
    · kernel_rfl
    simp [↓put_at, ↓AF.ev_tmp, ↓ex_cons, ↓ex_nil, ↓ex_assign, ↓AF.ev_bool, frame0]
    refine hK3 _ _ ?_
    try clear hK3 K3
    refine T_ret ?_
    try simp only [thenK_ret, blockT_ret, loopT_ret]
    -- leaf 0: ret
    refine owes_pure (.inr rfl) hwf rfl ?_ ?_ ?_
    · simp [frzVs, frzV, frz]; exact .refl _
    · simp [frzVs, frzV, frz]
    simp [frzVs, frzV, frz, packed]
    intro e; subst e; simp at c0
  · have hyl : ys.length = xs.length := by simp at c0; omega
    refine T_skip ?_
    simp only [thenK_normal, blockT_normal, loopT_normal]
    refine hK1 _ _ ?_
    try clear hK1 K1
    refine T_seqk fun K4 hK4 => ?_
    refine T_seqk fun K5 hK5 => ?_
    refine T_regionL ?_ ?_
    · kernel_rfl
    simp [↓put_at, ↓AF.ev_tmp, ↓ex_cons, ↓ex_nil, ↓ex_move, ↓ex_len, ↓AF.ev_int, aLen, frame0]
    refine hK5 _ _ ?_
    try clear hK5 K5
    refine T_block ?_
    refine T_loop (fun k F H' => ∃ i : Nat, k = xs.length - i ∧ i ≤ xs.length ∧ F 0 = PV.sl c 1 (xs.map irow) ∧ F 1 = PV.sl d 1 (ys.map irow) ∧ F 12 = .val (.int .i64 xs.length) ∧ F 13 = .val (.int .i64 i) ∧ H = H' ∧ xs.take i = ys.take i) (xs.length) ?_ ?_
    · refine ⟨0, ?_⟩
      simp [frame0]
    · rintro k F H' ⟨i, rfl, hi, h0, h1, h12, h13, rfl, htake⟩
      refine T_seqk fun K6 hK6 => ?_
      refine T_regionL ?_ ?_
      · kernel_rfl
      simp [↓put_at, ↓AF.ev_tmp, ↓ex_cons, ↓ex_nil, ↓ex_binOp, aBin, aBinV, frame0, h0, h1, h12, h13]
      refine hK6 _ _ ?_
      try clear hK6 K6
      refine T_seqk fun K7 hK7 => ?_
      refine T_cond (by first | rfl | exact h0 | exact h1 | exact h12 | exact h13) (fun c1 => ?_) (fun c1 => ?_)
      · have hlt : i < xs.length := by simpa using c1
        refine T_skip ?_
        simp only [thenK_normal, blockT_normal, loopT_normal]
        refine hK7 _ _ ?_
        try clear hK7 K7
        refine T_seqk fun K8 hK8 => ?_
        refine T_block ?_
        refine T_seqk fun K9 hK9 => ?_
        refine T_regionL ?_ ?_
        · kernel_rfl
        simp [↓put_at, ↓AF.ev_tmp, ↓ex_cons, ↓ex_nil, ↓ex_move, ↓ex_assign, frame0, h0, h1, h12, h13]
        refine hK9 _ _ ?_
        try clear hK9 K9
        refine T_seqk fun K10 hK10 => ?_
        refine T_draw (fun _ => True) [] (.free 0 (.free 1 (.free 2 (.free 3 (.free 4 (.free 5 (.free 6 (.free 7 (.free 8 .done))))))))) mix ?_ ?_ ?_
        · kernel_rfl
        · kernel_rfl
        have hlt' : i < ys.length := by omega
        simp [↓put_at, ↓AF.ev_tmp, ↓wk_free, ↓wk_sole, ↓wk_done, ↓wanted_none, Keeps, Same, ↓wk_move, ↓wk_indexAddr, ↓wk_load, ↓wk_binOp, aIndexAddr, aload, aBin, aBinV, frame0, h0, h1, h12, h13, aIndexAddr, sl_get (map_get (f := irow) hlt), sl_get (map_get (f := irow) hlt'), aload, irow, part_int, aBin, aBinV]
        refine hK10 _ _ ?_
        try clear hK10 K10
        refine T_cond (by first | rfl | exact h0 | exact h1 | exact h12 | exact h13) (fun c2 => ?_) (fun c2 => ?_)
        · refine T_seqk fun K11 hK11 => ?_
          refine T_regionL ?_ ?_
          · kernel_rfl
          simp [↓put_at, ↓AF.ev_tmp, ↓ex_cons, ↓ex_nil, ↓ex_assign, ↓AF.ev_bool, frame0, h0, h1, h12, h13]
          refine hK11 _ _ ?_
          try clear hK11 K11
          refine T_ret ?_
          try simp only [thenK_ret, blockT_ret, loopT_ret]
          -- leaf 1: ret
          refine owes_pure (.inr rfl) hwf rfl ?_ ?_ ?_
          · simp [frzVs, frzV, frz]; exact .refl _
          · simp [frzVs, frzV, frz]
          simp [frzVs, frzV, frz, packed]
          intro e; subst e; simp at c2
        · have heq : xs[i] = ys[i] := by simpa using c2
          refine T_skip ?_
          simp only [thenK_normal, blockT_normal, loopT_normal]
          refine hK8 _ _ ?_
          try clear hK8 K8
          refine T_regionL ?_ ?_
          · kernel_rfl
          simp [↓put_at, ↓AF.ev_tmp, ↓ex_cons, ↓ex_nil, ↓ex_binOp, ↓AF.ev_int, ↓ex_move, aBin, aBinV, frame0, h0, h1, h12, h13]
          -- end of a round of loop 0
          refine ⟨xs.length - (i + 1), by omega, i + 1, rfl, by omega, ?_⟩
          simp [h0, h1, h12, h13]
          rw [wrap_i64 (by omega) (by omega)]
          refine ⟨rfl, ?_⟩
          rw [List.take_succ_eq_append_getElem hlt, List.take_succ_eq_append_getElem hlt', htake, heq]
      · have hge : xs.length ≤ i := by simpa using c1
        refine T_exit ?_
        try simp only [thenK_exit, blockT_exit, loopT_exit, if_true, Nat.reduceEqDiff, if_false, reduceIte, thenK_normal, blockT_normal, loopT_normal]
        refine hK4 _ _ ?_
        try clear hK4 K4
        refine T_seqk fun K12 hK12 => ?_
        refine T_regionL ?_ ?_
        · kernel_rfl
        simp [↓put_at, ↓AF.ev_tmp, ↓ex_cons, ↓ex_nil, ↓ex_assign, ↓AF.ev_bool, frame0, h0, h1, h12, h13]
        refine hK12 _ _ ?_
        try clear hK12 K12
        refine T_ret ?_
        try simp only [thenK_ret, blockT_ret, loopT_ret]
        -- leaf 2: ret
        refine owes_pure (.inr rfl) hwf rfl ?_ ?_ ?_
        · simp [frzVs, frzV, frz]; exact .refl _
        · simp [frzVs, frzV, frz]
        simp [frzVs, frzV, frz, packed]
        rw [List.take_of_length_le hge, List.take_of_length_le (by omega)] at htake
        exact htake
set_option maxRecDepth 100000 in
theorem eqMsl (H : AS) (d : Nat) (xs ys : List Int) (hx : xs.length < 2 ^ 62) (id : Nat) (hb : H.box id = some (xs.map irow)) : ACalls Try.prog 6 [.msl id xs.length 1, PV.sl d 1 (ys.map irow)] H fun r H' => r = .val (.bool (decide (xs = ys))) ∧ H' = H := by
  refine ACalls_intro Try.func6 rfl (by kernel_rfl) (by simp) fun hwf hbel => ?_
  refine T_seqk fun K0 hK0 => ?_
  refine T_regionL ?_ ?_
  · kernel_rfl
  simp [↓put_at, ↓AF.ev_tmp, ↓ex_cons, ↓ex_nil, ↓ex_assign, ↓AF.ev_bool, frame0]
  refine hK0 _ _ ?_
  try clear hK0 K0
  refine T_seqk fun K1 hK1 => ?_
  refine T_seqk fun K2 hK2 => ?_
  refine T_regionL ?_ ?_
  · kernel_rfl
  simp [↓put_at, ↓AF.ev_tmp, ↓ex_cons, ↓ex_nil, ↓ex_move, ↓ex_len, ↓ex_binOp, aLen, aBin, aBinV, frame0]
  refine hK2 _ _ ?_
  try clear hK2 K2
  refine T_cond (rfl) (fun c0 => ?_) (fun c0 => ?_)
  · simp at c0
    refine T_seqk fun K3 hK3 => ?_
    refine T_regionL ?_ ?_
    · kernel_rfl
    simp [↓put_at, ↓AF.ev_tmp, ↓ex_cons, ↓ex_nil, ↓ex_assign, ↓AF.ev_bool, frame0]
    refine hK3 _ _ ?_
    try clear hK3 K3
    refine T_ret ?_
    try simp only [thenK_ret, blockT_ret, loopT_ret]
    -- leaf 0: ret
    refine owes_pure (.inr rfl) hwf rfl ?_ ?_ ?_
    · simp [frzVs, frzV, frz]; exact .refl _
    · simp [frzVs, frzV, frz]
    simp [frzVs, frzV, frz, packed]
    intro e; subst e; simp at c0
  · have hyl : ys.length = xs.length := by simp at c0; omega
    refine T_skip ?_
    simp only [thenK_normal, blockT_normal, loopT_normal]
    refine hK1 _ _ ?_
    try clear hK1 K1
    refine T_seqk fun K4 hK4 => ?_
    refine T_seqk fun K5 hK5 => ?_
    refine T_regionL ?_ ?_
    · kernel_rfl
    simp [↓put_at, ↓AF.ev_tmp, ↓ex_cons, ↓ex_nil, ↓ex_move, ↓ex_len, ↓AF.ev_int, aLen, frame0]
    refine hK5 _ _ ?_
    try clear hK5 K5
    refine T_block ?_
    refine T_loop (fun k F H' => ∃ i : Nat, k = xs.length - i ∧ i ≤ xs.length ∧ F 0 = .msl id xs.length 1 ∧ F 1 = PV.sl d 1 (ys.map irow) ∧ F 12 = .val (.int .i64 xs.length) ∧ F 13 = .val (.int .i64 i) ∧ H = H' ∧ xs.take i = ys.take i) (xs.length) ?_ ?_
    · refine ⟨0, ?_⟩
      simp [frame0]
    · rintro k F H' ⟨i, rfl, hi, h0, h1, h12, h13, rfl, htake⟩
      refine T_seqk fun K6 hK6 => ?_
      refine T_regionL ?_ ?_
      · kernel_rfl
      simp [↓put_at, ↓AF.ev_tmp, ↓ex_cons, ↓ex_nil, ↓ex_binOp, aBin, aBinV, frame0, h0, h1, h12, h13]
      refine hK6 _ _ ?_
      try clear hK6 K6
      refine T_seqk fun K7 hK7 => ?_
      refine T_cond (by first | rfl | exact h0 | exact h1 | exact h12 | exact h13) (fun c1 => ?_) (fun c1 => ?_)
      · have hlt : i < xs.length := by simpa using c1
        refine T_skip ?_
        simp only [thenK_normal, blockT_normal, loopT_normal]
        refine hK7 _ _ ?_
        try clear hK7 K7
        refine T_seqk fun K8 hK8 => ?_
        refine T_block ?_
        refine T_seqk fun K9 hK9 => ?_
        refine T_regionL ?_ ?_
        · kernel_rfl
        simp [↓put_at, ↓AF.ev_tmp, ↓ex_cons, ↓ex_nil, ↓ex_move, ↓ex_assign, frame0, h0, h1, h12, h13]
        refine hK9 _ _ ?_
        try clear hK9 K9
        refine T_seqk fun K10 hK10 => ?_
        refine T_draw (fun _ => True) [] (.free 0 (.free 1 (.free 2 (.free 3 (.free 4 (.free 5 (.free 6 (.free 7 (.free 8 .done))))))))) mix ?_ ?_ ?_
        · kernel_rfl
        · kernel_rfl
        have hlt' : i < ys.length := by omega
        simp [↓put_at, ↓AF.ev_tmp, ↓wk_free, ↓wk_sole, ↓wk_done, ↓wanted_none, Keeps, Same, ↓wk_move, ↓wk_indexAddr, ↓wk_load, ↓wk_binOp, aIndexAddr, aload, aBin, aBinV, frame0, h0, h1, h12, h13, aIndexAddr, amsl hlt, hb, List.getElem?_eq_getElem hlt, sl_get (map_get (f := irow) hlt'), aload, irow, part_int, aBin, aBinV]
        refine hK10 _ _ ?_
        try clear hK10 K10
        refine T_cond (by first | rfl | exact h0 | exact h1 | exact h12 | exact h13) (fun c2 => ?_) (fun c2 => ?_)
        · refine T_seqk fun K11 hK11 => ?_
          refine T_regionL ?_ ?_
          · kernel_rfl
          simp [↓put_at, ↓AF.ev_tmp, ↓ex_cons, ↓ex_nil, ↓ex_assign, ↓AF.ev_bool, frame0, h0, h1, h12, h13]
          refine hK11 _ _ ?_
          try clear hK11 K11
          refine T_ret ?_
          try simp only [thenK_ret, blockT_ret, loopT_ret]
          -- leaf 1: ret
          refine owes_pure (.inr rfl) hwf rfl ?_ ?_ ?_
          · simp [frzVs, frzV, frz]; exact .refl _
          · simp [frzVs, frzV, frz]
          simp [frzVs, frzV, frz, packed]
          intro e; subst e; simp at c2
        · have heq : xs[i] = ys[i] := by simpa using c2
          refine T_skip ?_
          simp only [thenK_normal, blockT_normal, loopT_normal]
          refine hK8 _ _ ?_
          try clear hK8 K8
          refine T_regionL ?_ ?_
          · kernel_rfl
          simp [↓put_at, ↓AF.ev_tmp, ↓ex_cons, ↓ex_nil, ↓ex_binOp, ↓AF.ev_int, ↓ex_move, aBin, aBinV, frame0, h0, h1, h12, h13]
          -- end of a round of loop 0
          refine ⟨xs.length - (i + 1), by omega, i + 1, rfl, by omega, ?_⟩
          simp [h0, h1, h12, h13]
          rw [wrap_i64 (by omega) (by omega)]
          refine ⟨rfl, ?_⟩
          rw [List.take_succ_eq_append_getElem hlt, List.take_succ_eq_append_getElem hlt', htake, heq]
      · have hge : xs.length ≤ i := by simpa using c1
        refine T_exit ?_
        try simp only [thenK_exit, blockT_exit, loopT_exit, if_true, Nat.reduceEqDiff, if_false, reduceIte, thenK_normal, blockT_normal, loopT_normal]
        refine hK4 _ _ ?_
        try clear hK4 K4
        refine T_seqk fun K12 hK12 => ?_
        refine T_regionL ?_ ?_
        · kernel_rfl
        simp [↓put_at, ↓AF.ev_tmp, ↓ex_cons, ↓ex_nil, ↓ex_assign, ↓AF.ev_bool, frame0, h0, h1, h12, h13]
        refine hK12 _ _ ?_
        try clear hK12 K12
        refine T_ret ?_
        try simp only [thenK_ret, blockT_ret, loopT_ret]
        -- leaf 2: ret
        refine owes_pure (.inr rfl) hwf rfl ?_ ?_ ?_
        · simp [frzVs, frzV, frz]; exact .refl _
        · simp [frzVs, frzV, frz]
        simp [frzVs, frzV, frz, packed]
        rw [List.take_of_length_le hge, List.take_of_length_le (by omega)] at htake
        exact htake
theorem eqOut (H : AS) (lo d : Nat) (xs ys : List Int) (hx : xs.length < 2 ^ 62) {q : PV} (hq : OutIs lo H q 1 (xs.map irow)) : ACalls Try.prog 6 [q, PV.sl d 1 (ys.map irow)] H fun r H' => r = .val (.bool (decide (xs = ys))) ∧ H' = H := by
  rcases hq with ⟨h, rfl⟩ | ⟨id, -, -, rfl, hb⟩
  · have hx0 : xs = [] := by simpa using h
    subst hx0
    refine ACalls.of_nil (eqFrozen H d [] ys (by simp) 0) fun G vs hall => ?_
    cases vs with
    | nil => exact hall.elim
    | cons v vs => exact ⟨by have := hall.1; cases this; exact .nilSlice, hall.2⟩
  · simpa using eqMsl H d xs ys hx id hb

def nextS (a b : Int) : List Int := if a = b then [a] else sort2 a b
def nextL (x : DOp) (at' : Int) : List Int :=
  if x.code = 16 then [x.b] else if x.code = 17 then nextS (at' + 1) x.b else if x.code = 20 ∨ x.code = 21 then [] else [at' + 1]
theorem wa (n : Int) (h : 0 ≤ n ∧ n < 16385) : IntKind.i64.wrap (n + 1) = n + 1 := wrap_i64 (by omega) (by omega)
theorem sortOnce (H : AS) (a b : Int) {lo : Nat} {q : PV} (hq : OutIs lo H q 1 ((onceL a b).map irow)) (hlo : lo ≤ H.next) : ACalls Try.prog 12 [q] H fun r H' => r = .tuple [] ∧ OutIs lo H' q 1 ((nextS a b).map irow) ∧ Above lo H H' := by
  by_cases e : a = b
  · rcases hq with ⟨h, rfl⟩ | ⟨id, h1, h2, rfl, hb⟩
    · simp [onceL, e] at h
    · simp only [onceL, e, if_true] at hb ⊢
      refine (sortOne H id).mono ?_
      rintro r H' ⟨rfl, rfl⟩
      refine ⟨rfl, .inr ⟨id, h1, h2, by simp [nextS], by simpa [nextS] using hb⟩, .refl⟩
  · rcases hq with ⟨h, rfl⟩ | ⟨id, h1, h2, rfl, hb⟩
    · simp [onceL, e] at h
    · simp only [onceL, e, if_false] at hb ⊢
      refine (sortTwo H id a b hb).mono ?_
      rintro r H' ⟨rfl, rfl⟩
      refine ⟨rfl, .inr ⟨id, h1, by simpa using h2, ?_, ?_⟩, fun H0 h0 hext => .setBox (by omega) hext⟩
      · simp only [nextS, e, if_false, sort2]; split <;> simp
      · simp [nextS, e]
set_option maxRecDepth 100000 in
theorem nextIr (H : AS) (x : DOp) (at' : Int) (ha : 0 ≤ at' ∧ at' < 16385) : ACalls Try.prog 9 [.agg x.row, pi at'] H fun q H' => q = PV.sl H.color 1 ((nextL x at').map irow) ∧ H' = H := by
  refine ACalls_intro Try.func9 rfl (by kernel_rfl) (by simp) fun hwf hbel => ?_
  refine T_seqk fun K0 hK0 => ?_
  refine T_regionL ?_ ?_
  · kernel_rfl
  simp [↓put_at, ↓AF.ev_tmp, ↓ex_cons, ↓ex_nil, ↓ex_box, ↓ex_assign, ↓AF.ev_slice, abox, frame0]
  refine hK0 _ _ ?_
  try clear hK0 K0
  refine T_seqk fun K1 hK1 => ?_
  refine T_mid (fun F H' => F 1 = pi at' ∧ F 2 = .ptr H.next 1 0 0 ∧ F 7 = pi x.code ∧ H'.box H.next = some [x.row] ∧ H.Ext H' ∧ H'.next = H.next + 1) ?_ ?_
  · refine T_regionL ?_ ?_
    · kernel_rfl
    simp [↓put_at, ↓AF.ev_tmp, ↓ex_cons, ↓ex_nil, ↓ex_fieldAddr, ↓ex_load, aFieldAddr, aload, partOf, frame0, DOp.row]
    -- a join
    exact .bump (.setBox (Nat.le_refl _) (.refl _))
  · rintro F H' ⟨h1, h2, h7, b1, hext, hn⟩
    refine T_block ?_
    refine T_seqk fun K2 hK2 => ?_
    refine T_regionL ?_ ?_
    · kernel_rfl
    simp [↓put_at, ↓AF.ev_tmp, ↓ex_cons, ↓ex_nil, ↓ex_binOp, ↓AF.ev_int, ↓ex_assign, aBin, aBinV, frame0, h1, h2, h7]
    refine hK2 _ _ ?_
    try clear hK2 K2
    refine T_cond (by first | rfl | exact h1 | exact h2 | exact h7) (fun c0 => ?_) (fun c0 => ?_)
    · refine T_seqk fun K3 hK3 => ?_
      refine T_regionL ?_ ?_
      · kernel_rfl
      simp [↓put_at, ↓AF.ev_tmp, ↓ex_cons, ↓ex_nil, ↓ex_fieldAddr, ↓ex_load, ↓ex_buildSlice, ↓ex_assign, aFieldAddr, aload, partOf, abuildSlice, frame0, h1, h2, h7, b1, DOp.row, frzR_id]
      refine hK3 _ _ ?_
      try clear hK3 K3
      refine T_ret ?_
      try simp only [thenK_ret, blockT_ret, loopT_ret]
      -- leaf 0: ret
      refine owes_out (lo := H.next) (rows := (nextL x at').map irow) (.inr rfl) hwf rfl ?_ (Nat.le_refl _) (.bump (.setBox (by omega) hext)) (by simp [irow])
      simp_all [nextL, irow]
      refine .mk (by omega) (by simp <;> omega) (by simp) rfl
    · refine T_seqk fun K4 hK4 => ?_
      refine T_regionL ?_ ?_
      · kernel_rfl
      simp [↓put_at, ↓AF.ev_tmp, ↓ex_cons, ↓ex_nil, ↓ex_binOp, ↓AF.ev_int, ↓ex_assign, aBin, aBinV, frame0, h1, h2, h7]
      refine hK4 _ _ ?_
      try clear hK4 K4
      refine T_cond (by first | rfl | exact h1 | exact h2 | exact h7) (fun c1 => ?_) (fun c1 => ?_)
      · refine T_seqk fun K5 hK5 => ?_
        refine T_regionL ?_ ?_
        · kernel_rfl
        simp [↓put_at, ↓AF.ev_tmp, ↓ex_cons, ↓ex_nil, ↓ex_move, ↓ex_binOp, ↓AF.ev_int, ↓ex_fieldAddr, ↓ex_load, ↓ex_call, ↓AF.ev_func, ↓ex_assign, aBin, aBinV, aFieldAddr, aload, partOf, frame0, h1, h2, h7, b1, DOp.row, wa at' ha]
        refine callK.of (onceOpen _ (at' + 1) x.b) ?_
        rintro q H2 ⟨hq, hext2⟩
        simp [↓put_at, ↓AF.ev_tmp, ↓ex_cons, ↓ex_nil, ↓ex_move, ↓ex_binOp, ↓AF.ev_int, ↓ex_fieldAddr, ↓ex_load, ↓ex_call, ↓AF.ev_func, ↓ex_assign, aBin, aBinV, aFieldAddr, aload, partOf, frame0, h1, h2, h7, b1, DOp.row, wa at' ha]
        refine hK5 _ _ ?_
        try clear hK5 K5
        refine T_seqk fun K6 hK6 => ?_
        refine T_regionL ?_ ?_
        · kernel_rfl
        simp [↓put_at, ↓AF.ev_tmp, ↓ex_cons, ↓ex_nil, ↓ex_move, ↓ex_call, ↓AF.ev_func, frame0, h1, h2, h7]
        refine callK.of (sortOnce _ (at' + 1) x.b hq (by have := hext2.next; omega)) ?_
        rintro _ H3 ⟨rfl, hq3, hab⟩
        simp [↓put_at, ↓AF.ev_tmp, ↓ex_cons, ↓ex_nil, ↓ex_move, ↓ex_call, ↓AF.ev_func, frame0, h1, h2, h7]
        refine hK6 _ _ ?_
        try clear hK6 K6
        refine T_seqk fun K7 hK7 => ?_
        refine T_regionL ?_ ?_
        · kernel_rfl
        simp [↓put_at, ↓AF.ev_tmp, ↓ex_cons, ↓ex_nil, ↓ex_move, ↓ex_assign, frame0, h1, h2, h7]
        refine hK7 _ _ ?_
        try clear hK7 K7
        refine T_ret ?_
        try simp only [thenK_ret, blockT_ret, loopT_ret]
        -- leaf 1: ret
        refine owes_out (lo := H.next) (rows := (nextL x at').map irow) (.inr rfl) hwf rfl ?_ (Nat.le_refl _) (hab _ (by omega) (hext.trans hext2)) (by simp [irow])
        simp_all [nextL]
        exact hq3.lower (by omega)
      · refine T_mid (fun F H' => F 1 = pi at' ∧ F 2 = .ptr H.next 1 0 0 ∧ F 7 = pi x.code ∧ H'.box H.next = some [x.row] ∧ H.Ext H' ∧ H'.next = H.next + 1 ∧ F 23 = pb (decide (x.code = 20 ∨ x.code = 21)) ∧ x.code ≠ 16 ∧ x.code ≠ 17) ?_ ?_
        · refine T_seqk fun K8 hK8 => ?_
          refine T_regionL ?_ ?_
          · kernel_rfl
          simp [↓put_at, ↓AF.ev_tmp, ↓ex_cons, ↓ex_nil, ↓ex_binOp, ↓AF.ev_int, ↓ex_assign, aBin, aBinV, frame0, h1, h2, h7]
          refine hK8 _ _ ?_
          try clear hK8 K8
          refine T_cond (by first | rfl | exact h1 | exact h2 | exact h7) (fun c2 => ?_) (fun c2 => ?_)
          · refine T_skip ?_
            simp only [thenK_normal, blockT_normal, loopT_normal]
            -- a join
            simp_all [int_beq]
          · refine T_regionL ?_ ?_
            · kernel_rfl
            simp [↓put_at, ↓AF.ev_tmp, ↓ex_cons, ↓ex_nil, ↓ex_binOp, ↓AF.ev_int, ↓ex_assign, aBin, aBinV, frame0, h1, h2, h7]
            -- a join
            simp_all [int_beq]
        · rintro F H' ⟨h1, h2, h7, b1, hext, hn, h23, hx1, hx2⟩
          refine T_cond (by first | rfl | exact h1 | exact h2 | exact h7 | exact h1 | exact h2 | exact h7 | exact h23) (fun c3 => ?_) (fun c3 => ?_)
          · refine T_seqk fun K9 hK9 => ?_
            refine T_regionL ?_ ?_
            · kernel_rfl
            simp [↓put_at, ↓AF.ev_tmp, ↓ex_cons, ↓ex_nil, ↓ex_assign, ↓AF.ev_slice, frame0, h1, h2, h7, h1, h2, h7, h23]
            refine hK9 _ _ ?_
            try clear hK9 K9
            refine T_ret ?_
            try simp only [thenK_ret, blockT_ret, loopT_ret]
            -- leaf 2: ret
            refine owes_out (lo := H.next) (rows := (nextL x at').map irow) (.inr rfl) hwf rfl ?_ (Nat.le_refl _) hext (by simp [irow])
            simp_all [nextL]
            exact .nil
          · refine T_skip ?_
            simp only [thenK_normal, blockT_normal, loopT_normal]
            refine hK1 _ _ ?_
            try clear hK1 K1
            refine T_seqk fun K10 hK10 => ?_
            refine T_regionL ?_ ?_
            · kernel_rfl
            simp [↓put_at, ↓AF.ev_tmp, ↓ex_cons, ↓ex_nil, ↓ex_move, ↓ex_binOp, ↓AF.ev_int, ↓ex_buildSlice, ↓ex_assign, aBin, aBinV, abuildSlice, frame0, h1, h2, h7, h1, h2, h7, h23, wa at' ha, frzR_id]
            refine hK10 _ _ ?_
            try clear hK10 K10
            refine T_ret ?_
            try simp only [thenK_ret, blockT_ret, loopT_ret]
            -- leaf 3: ret
            refine owes_out (lo := H.next) (rows := (nextL x at').map irow) (.inr rfl) hwf rfl ?_ (Nat.le_refl _) (.bump (.setBox (by omega) hext)) (by simp [irow])
            simp_all [nextL, irow]
            refine .mk (by omega) (by simp <;> omega) (by simp) rfl
end Go.Abs
