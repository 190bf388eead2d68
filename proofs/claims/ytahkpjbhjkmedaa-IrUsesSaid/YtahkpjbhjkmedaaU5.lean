import Derived.Test.YtahkpjbhjkmedaaU4
namespace Go.Abs
open Go.Proofs
set_option autoImplicit false
set_option linter.all false
def sort2 (a b : Int) : List Int := if b < a then [b, a] else [a, b]
theorem w0 : IntKind.i64.wrap 0 = 0 := rfl
theorem setBox_self {H : AS} {id : Nat} {r : List (List PV)} (h : H.box id = some r) : H.setBox id r = H := by
  cases H; simp only [AS.setBox, AS.mk.injEq, and_true]
  funext i; split
  · rename_i e; subst e; exact h.symm
  · rfl
theorem setBox_setBox {H : AS} {id : Nat} {r s : List (List PV)} : (H.setBox id r).setBox id s = H.setBox id s := by
  cases H; simp only [AS.setBox, AS.mk.injEq, and_true]
  funext i; split <;> rfl
set_option maxRecDepth 100000 in
theorem insTwo (H : AS) (id : Nat) (a b : Int) (hb : H.box id = some [irow a, irow b]) : ACalls Try.prog 15 [.msl id 2 1, pi 0, pi 2] H fun q H' => q = .tuple [] ∧ H' = H.setBox id ((sort2 a b).map irow) := by
  refine ACalls_open Try.func15 rfl (by kernel_rfl) (by simp) fun hwf hbel => ?_
  refine T_seqk fun K0 hK0 => ?_
  refine T_regionL ?_ ?_
  · kernel_rfl
  simp [↓put_at, ↓AF.ev_tmp, ↓ex_cons, ↓ex_nil, ↓ex_move, ↓ex_binOp, ↓AF.ev_int, ↓ex_assign, aBin, aBinV, frame0, w1]
  refine hK0 _ _ ?_
  try clear hK0 K0
  refine T_block ?_
  refine T_loop (fun k F H' => (k = 1 ∧ F 0 = .msl id 2 1 ∧ F 1 = pi 0 ∧ F 2 = pi 2 ∧ F 6 = pi 1 ∧ H = H') ∨ (k = 0 ∧ F 0 = .msl id 2 1 ∧ F 1 = pi 0 ∧ F 2 = pi 2 ∧ F 6 = pi 2 ∧ H' = H.setBox id ((sort2 a b).map irow))) (1) ?_ ?_
  · simp [frame0]
  · rintro k F H' (⟨rfl, h0, h1, h2, h6, rfl⟩ | ⟨rfl, h0, h1, h2, h6, hH⟩)
    · refine T_seqk fun K1 hK1 => ?_
      refine T_seqk fun K2 hK2 => ?_
      refine T_regionL ?_ ?_
      · kernel_rfl
      simp [↓put_at, ↓AF.ev_tmp, ↓ex_cons, ↓ex_nil, ↓ex_move, ↓ex_binOp, aBin, aBinV, frame0, h0, h1, h2, h6]
      refine hK2 _ _ ?_
      try clear hK2 K2
      refine T_cond (by first | rfl | exact h0 | exact h1 | exact h2 | exact h6) (fun c0 => ?_) (fun c0 => ?_)
      · refine T_skip ?_
        simp only [thenK_normal, blockT_normal, loopT_normal]
        refine hK1 _ _ ?_
        try clear hK1 K1
        refine T_seqk fun K3 hK3 => ?_
        refine T_block ?_
        refine T_seqk fun K4 hK4 => ?_
        refine T_regionL ?_ ?_
        · kernel_rfl
        simp [↓put_at, ↓AF.ev_tmp, ↓ex_cons, ↓ex_nil, ↓ex_move, ↓ex_assign, frame0, h0, h1, h2, h6]
        refine hK4 _ _ ?_
        try clear hK4 K4
        refine T_block ?_
        refine T_loop (fun k F H' => (k = 1 ∧ F 0 = .msl id 2 1 ∧ F 1 = pi 0 ∧ F 2 = pi 2 ∧ F 6 = pi 1 ∧ F 7 = pi 1 ∧ H = H') ∨ (k = 0 ∧ F 0 = .msl id 2 1 ∧ F 1 = pi 0 ∧ F 2 = pi 2 ∧ F 6 = pi 1 ∧ F 7 = pi 0 ∧ b < a ∧ H' = H.setBox id [irow b, irow a])) (1) ?_ ?_
        · left
          simp [h0, h1, h2, h6]
        · rintro k F H' (⟨rfl, h0, h1, h2, h6, h7, rfl⟩ | ⟨rfl, h0, h1, h2, h6, h7, hlt, hH⟩)
          · refine T_seqk fun K5 hK5 => ?_
            refine T_seqk fun K6 hK6 => ?_
            refine T_draw (fun i => i = id) [] (.free 0 (.free 1 (.free 2 (.free 3 (.free 4 (.free 5 (.free 6 (.free 7 (.free 8 (.free 9 (.free 10 (.free 11 (.free 12 (.free 13 (.free 14 .done))))))))))))))) mix ?_ ?_ ?_
            · kernel_rfl
            · kernel_rfl
            simp [↓put_at, ↓AF.ev_tmp, ↓wk_free, ↓wk_sole, ↓wk_done, ↓wanted_none, Keeps, Same, ↓wk_move, ↓wk_binOp, ↓wanted_some, ↓wk_indexAddr, ↓wk_load, ↓AF.ev_int, ↓wk_call, ↓AF.ev_func, ↓wk_pick, ↓AF.ev_bool, aBin, aBinV, aIndexAddr, aload, partOf, frame0, h0, h1, h2, h6, h0, h1, h2, h6, h7, hb, irow, aIndexAddr, aindex, w0]
            refine askK.of _ ?_ (fun H' hS => lessInt _ b a) ?_
            · intro H' hS; first | rfl | (rw [hS.2])
            simp [↓put_at, ↓AF.ev_tmp, ↓wk_free, ↓wk_sole, ↓wk_done, ↓wanted_none, Keeps, Same, ↓wk_move, ↓wk_binOp, ↓wanted_some, ↓wk_indexAddr, ↓wk_load, ↓AF.ev_int, ↓wk_call, ↓AF.ev_func, ↓wk_pick, ↓AF.ev_bool, aBin, aBinV, aIndexAddr, aload, partOf, frame0, h0, h1, h2, h6, h0, h1, h2, h6, h7, hb, irow, aIndexAddr, aindex, w0]
            refine hK6 _ _ ?_
            try clear hK6 K6
            refine T_cond (by first | rfl | exact h0 | exact h1 | exact h2 | exact h6 | exact h0 | exact h1 | exact h2 | exact h6 | exact h7) (fun c1 => ?_) (fun c1 => ?_)
            · refine T_skip ?_
              simp only [thenK_normal, blockT_normal, loopT_normal]
              refine hK5 _ _ ?_
              try clear hK5 K5
              refine T_seqk fun K7 hK7 => ?_
              refine T_block ?_
              refine T_draw (fun i => i = id) [15, 17] (.free 0 (.free 1 (.free 2 (.free 3 (.free 4 (.free 5 (.free 6 (.free 7 (.free 8 (.free 9 (.free 10 (.free 11 (.free 12 (.free 13 (.free 14 (.sole 15 (.free 16 (.sole 17 .done)))))))))))))))))) mix ?_ ?_ ?_
              · kernel_rfl
              · kernel_rfl
              simp [↓put_at, ↓AF.ev_tmp, ↓wk_free, ↓wk_sole, ↓wk_done, ↓wanted_none, Keeps, Same, ↓wk_move, ↓wk_binOp, ↓AF.ev_int, ↓wk_indexAddr, ↓wk_load, ↓ex_store, aBin, aBinV, aIndexAddr, aload, partOf, astore, splice, frame0, h0, h1, h2, h6, h0, h1, h2, h6, h7, hb, irow, aIndexAddr, aindex, w0]
              refine hK7 _ _ ?_
              try clear hK7 K7
              refine T_regionL ?_ ?_
              · kernel_rfl
              simp [↓put_at, ↓AF.ev_tmp, ↓ex_cons, ↓ex_nil, ↓ex_move, ↓ex_binOp, ↓AF.ev_int, ↓ex_assign, aBin, aBinV, frame0, h0, h1, h2, h6, h0, h1, h2, h6, h7]
              -- end of a round of loop 1
              simp [h0, h1, h2, h6, h7, w0]
              refine ⟨by simpa using c1, ?_⟩
              rw [setBox_setBox]; rfl
            · refine T_exit ?_
              try simp only [thenK_exit, blockT_exit, loopT_exit, if_true, Nat.reduceEqDiff, if_false, reduceIte, thenK_normal, blockT_normal, loopT_normal]
              refine hK3 _ _ ?_
              try clear hK3 K3
              refine T_regionL ?_ ?_
              · kernel_rfl
              simp [↓put_at, ↓AF.ev_tmp, ↓ex_cons, ↓ex_nil, ↓ex_move, ↓ex_binOp, ↓AF.ev_int, ↓ex_assign, aBin, aBinV, frame0, h0, h1, h2, h6, h0, h1, h2, h6, h7]
              -- end of a round of loop 0
              simp [h0, h1, h2, h6, wrap_i64]
              first
                | (have hn : ¬ b < a := by simpa using c1
                   try refine ⟨rfl, ?_⟩
                   simp only [sort2, hn, if_false]; exact (setBox_self hb).symm)
                | (simp only [sort2, hlt, if_true]; first | exact hH | exact ⟨rfl, hH⟩)
          · refine T_seqk fun K8 hK8 => ?_
            refine T_seqk fun K9 hK9 => ?_
            refine T_draw (fun i => i = id) [] (.free 0 (.free 1 (.free 2 (.free 3 (.free 4 (.free 5 (.free 6 (.free 7 (.free 8 (.free 9 (.free 10 (.free 11 (.free 12 (.free 13 (.free 14 .done))))))))))))))) mix ?_ ?_ ?_
            · kernel_rfl
            · kernel_rfl
            simp [↓put_at, ↓AF.ev_tmp, ↓wk_free, ↓wk_sole, ↓wk_done, ↓wanted_none, Keeps, Same, ↓wk_move, ↓wk_binOp, ↓wanted_some, ↓wk_indexAddr, ↓wk_load, ↓AF.ev_int, ↓wk_call, ↓AF.ev_func, ↓wk_pick, ↓AF.ev_bool, aBin, aBinV, aIndexAddr, aload, partOf, frame0, h0, h1, h2, h6, h0, h1, h2, h6, h7, hb, irow, aIndexAddr, aindex, w0]
            refine hK9 _ _ ?_
            try clear hK9 K9
            refine T_cond (by first | rfl | exact h0 | exact h1 | exact h2 | exact h6 | exact h0 | exact h1 | exact h2 | exact h6 | exact h7) (fun c2 => ?_) (fun c2 => ?_)
            · cases c2 --done
            · refine T_exit ?_
              try simp only [thenK_exit, blockT_exit, loopT_exit, if_true, Nat.reduceEqDiff, if_false, reduceIte, thenK_normal, blockT_normal, loopT_normal]
              refine hK3 _ _ ?_
              try clear hK3 K3
              refine T_regionL ?_ ?_
              · kernel_rfl
              simp [↓put_at, ↓AF.ev_tmp, ↓ex_cons, ↓ex_nil, ↓ex_move, ↓ex_binOp, ↓AF.ev_int, ↓ex_assign, aBin, aBinV, frame0, h0, h1, h2, h6, h0, h1, h2, h6, h7]
              -- end of a round of loop 0
              simp [h0, h1, h2, h6, wrap_i64]
              first
                | (have hn : ¬ b < a := by simpa using c1
                   try refine ⟨rfl, ?_⟩
                   simp only [sort2, hn, if_false]; exact (setBox_self hb).symm)
                | (simp only [sort2, hlt, if_true]; first | exact hH | exact ⟨rfl, hH⟩)
      · cases c0 --done
    · refine T_seqk fun K10 hK10 => ?_
      refine T_seqk fun K11 hK11 => ?_
      refine T_regionL ?_ ?_
      · kernel_rfl
      simp [↓put_at, ↓AF.ev_tmp, ↓ex_cons, ↓ex_nil, ↓ex_move, ↓ex_binOp, aBin, aBinV, frame0, h0, h1, h2, h6]
      refine hK11 _ _ ?_
      try clear hK11 K11
      refine T_cond (by first | rfl | exact h0 | exact h1 | exact h2 | exact h6) (fun c3 => ?_) (fun c3 => ?_)
      · cases c3 --done
      · refine T_exit ?_
        try simp only [thenK_exit, blockT_exit, loopT_exit, if_true, Nat.reduceEqDiff, if_false, reduceIte, thenK_normal, blockT_normal, loopT_normal]
        -- leaf 0: normal
        refine owesO_none (.inl rfl) rfl ⟨rfl, by assumption⟩
end Go.Abs
