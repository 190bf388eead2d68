import Derived.Test.YtahkpjbhjkmedaaU7
namespace Go.Abs
open Go.Proofs
set_option autoImplicit false
set_option linter.all false
set_option maxRecDepth 100000 in
theorem nextRef (H : AS) (x : DOp) (at' : Int) (ha : 0 ≤ at' ∧ at' < 16385) : ACalls Try.prog 10 [.agg x.row, pi at'] H fun q H' => q = PV.sl H.color 1 ((nextL x at').map irow) ∧ H' = H := by
  refine ACalls_intro Try.func10 rfl (by kernel_rfl) (by simp) fun hwf hbel => ?_
  refine T_mid (fun F H' => F 1 = pi at' ∧ F 2 = .ptr H.next 1 0 0 ∧ H'.box H.next = some [x.row] ∧ H.Ext H' ∧ H'.next = H.next + 1) ?_ ?_
  · refine T_regionL ?_ ?_
    · kernel_rfl
    simp [↓put_at, ↓AF.ev_tmp, ↓ex_cons, ↓ex_nil, ↓ex_box, ↓ex_assign, ↓AF.ev_slice, abox, frame0]
    -- a join
    exact .bump (.setBox (Nat.le_refl _) (.refl _))
  · rintro F H' ⟨h1, h2, b1, hext, hn⟩
    refine T_seqk fun K0 hK0 => ?_
    refine T_block ?_
    refine T_mid (fun F H' => F 1 = pi at' ∧ F 2 = .ptr H.next 1 0 0 ∧ H'.box H.next = some [x.row] ∧ H.Ext H' ∧ H'.next = H.next + 1 ∧ F 5 = pb (decide (x.code = 16))) ?_ ?_
    · refine T_regionL ?_ ?_
      · kernel_rfl
      simp [↓put_at, ↓AF.ev_tmp, ↓ex_cons, ↓ex_nil, ↓ex_fieldAddr, ↓ex_load, ↓ex_binOp, ↓AF.ev_int, ↓ex_assign, aFieldAddr, aload, partOf, aBin, aBinV, frame0, h1, h2, b1, DOp.row, int_beq]
      -- a join
      all_goals simp_all [int_beq]
    · rintro F H' ⟨h1, h2, b1, hext, hn, h5⟩
      refine T_cond (by first | rfl | exact h1 | exact h2 | exact h1 | exact h2 | exact h5) (fun c0 => ?_) (fun c0 => ?_)
      · refine T_seqk fun K1 hK1 => ?_
        refine T_regionL ?_ ?_
        · kernel_rfl
        simp [↓put_at, ↓AF.ev_tmp, ↓ex_cons, ↓ex_nil, ↓ex_fieldAddr, ↓ex_load, ↓ex_buildSlice, ↓ex_assign, aFieldAddr, aload, partOf, abuildSlice, frame0, h1, h2, h1, h2, h5, b1, DOp.row, frzR_id, wa at' ha]
        refine hK1 _ _ ?_
        try clear hK1 K1
        refine T_ret ?_
        try simp only [thenK_ret, blockT_ret, loopT_ret]
        -- leaf 0: ret
        refine owes_out (lo := H.next) (rows := (nextL x at').map irow) (.inr rfl) hwf rfl ?_ (Nat.le_refl _) (.bump (.setBox (by omega) hext)) (by simp [irow])
        simp_all [nextL, irow, nextS, sort2]
        refine .mk (by omega) (by simp <;> omega) (by simp) rfl
      · refine T_mid (fun F H' => F 1 = pi at' ∧ F 2 = .ptr H.next 1 0 0 ∧ H'.box H.next = some [x.row] ∧ H.Ext H' ∧ H'.next = H.next + 1 ∧ F 12 = pb (decide (x.code = 20 ∨ x.code = 21))) ?_ ?_
        · refine T_regionL ?_ ?_
          · kernel_rfl
          by_cases e : x.code = 20 <;> simp [↓put_at, ↓AF.ev_tmp, ↓ex_cons, ↓ex_nil, ↓ex_fieldAddr, ↓ex_load, ↓ex_binOp, ↓AF.ev_int, ↓ex_move, ↓ex_guard, ↓ex_pick, ↓AF.ev_bool, ↓ex_assign, aFieldAddr, aload, partOf, aBin, aBinV, frame0, h1, h2, h1, h2, h5, b1, DOp.row, int_beq, wa at' ha, e]
          -- a join
          all_goals simp_all [int_beq]
        · rintro F H' ⟨h1, h2, b1, hext, hn, h12⟩
          refine T_cond (by first | rfl | exact h1 | exact h2 | exact h1 | exact h2 | exact h5 | exact h1 | exact h2 | exact h12) (fun c1 => ?_) (fun c1 => ?_)
          · refine T_seqk fun K2 hK2 => ?_
            refine T_regionL ?_ ?_
            · kernel_rfl
            simp [↓put_at, ↓AF.ev_tmp, ↓ex_cons, ↓ex_nil, ↓ex_assign, ↓AF.ev_slice, frame0, h1, h2, h1, h2, h5, h1, h2, h12]
            refine hK2 _ _ ?_
            try clear hK2 K2
            refine T_ret ?_
            try simp only [thenK_ret, blockT_ret, loopT_ret]
            -- leaf 1: ret
            refine owes_out (lo := H.next) (rows := (nextL x at').map irow) (.inr rfl) hwf rfl ?_ (Nat.le_refl _) hext (by simp [irow])
            have e : nextL x at' = [] := by
              simp at c0 c1
              unfold nextL nextS sort2
              (repeat' split) <;> first | rfl | (exfalso; omega)
            rw [e]
            simp
            exact .nil
          · refine T_mid (fun F H' => F 1 = pi at' ∧ F 2 = .ptr H.next 1 0 0 ∧ H'.box H.next = some [x.row] ∧ H.Ext H' ∧ H'.next = H.next + 1 ∧ F 21 = pb (decide (x.code = 17 ∧ x.b < at' + 1))) ?_ ?_
            · refine T_regionL ?_ ?_
              · kernel_rfl
              by_cases e : x.code = 17 <;> simp [↓put_at, ↓AF.ev_tmp, ↓ex_cons, ↓ex_nil, ↓ex_fieldAddr, ↓ex_load, ↓ex_binOp, ↓AF.ev_int, ↓ex_move, ↓ex_guard, ↓ex_pick, ↓AF.ev_bool, ↓ex_assign, aFieldAddr, aload, partOf, aBin, aBinV, frame0, h1, h2, h1, h2, h5, h1, h2, h12, b1, DOp.row, int_beq, wa at' ha, e]
              -- a join
              all_goals simp_all [int_beq]
            · rintro F H' ⟨h1, h2, b1, hext, hn, h21⟩
              refine T_cond (by first | rfl | exact h1 | exact h2 | exact h1 | exact h2 | exact h5 | exact h1 | exact h2 | exact h12 | exact h1 | exact h2 | exact h21) (fun c2 => ?_) (fun c2 => ?_)
              · refine T_seqk fun K3 hK3 => ?_
                refine T_regionL ?_ ?_
                · kernel_rfl
                simp [↓put_at, ↓AF.ev_tmp, ↓ex_cons, ↓ex_nil, ↓ex_fieldAddr, ↓ex_load, ↓ex_move, ↓ex_binOp, ↓AF.ev_int, ↓ex_buildSlice, ↓ex_assign, aFieldAddr, aload, partOf, aBin, aBinV, abuildSlice, frame0, h1, h2, h1, h2, h5, h1, h2, h12, h1, h2, h21, b1, DOp.row, frzR_id, wa at' ha]
                refine hK3 _ _ ?_
                try clear hK3 K3
                refine T_ret ?_
                try simp only [thenK_ret, blockT_ret, loopT_ret]
                -- leaf 2: ret
                refine owes_out (lo := H.next) (rows := (nextL x at').map irow) (.inr rfl) hwf rfl ?_ (Nat.le_refl _) (.bump (.setBox (by omega) hext)) (by simp [irow])
                have e : nextL x at' = [x.b, at' + 1] := by
                  simp at c0 c1 c2
                  unfold nextL nextS sort2
                  (repeat' split) <;> first | rfl | (exfalso; omega)
                rw [e]
                refine .mk (by omega) (by simp <;> omega) (by simp [irow]) rfl
              · refine T_mid (fun F H' => F 1 = pi at' ∧ F 2 = .ptr H.next 1 0 0 ∧ H'.box H.next = some [x.row] ∧ H.Ext H' ∧ H'.next = H.next + 1 ∧ F 37 = pb (decide (x.code = 17 ∧ x.b > at' + 1))) ?_ ?_
                · refine T_regionL ?_ ?_
                  · kernel_rfl
                  by_cases e : x.code = 17 <;> simp [↓put_at, ↓AF.ev_tmp, ↓ex_cons, ↓ex_nil, ↓ex_fieldAddr, ↓ex_load, ↓ex_binOp, ↓AF.ev_int, ↓ex_move, ↓ex_guard, ↓ex_pick, ↓AF.ev_bool, ↓ex_assign, aFieldAddr, aload, partOf, aBin, aBinV, frame0, h1, h2, h1, h2, h5, h1, h2, h12, h1, h2, h21, b1, DOp.row, int_beq, wa at' ha, e]
                  -- a join
                  all_goals simp_all [int_beq]
                · rintro F H' ⟨h1, h2, b1, hext, hn, h37⟩
                  refine T_cond (by first | rfl | exact h1 | exact h2 | exact h1 | exact h2 | exact h5 | exact h1 | exact h2 | exact h12 | exact h1 | exact h2 | exact h21 | exact h1 | exact h2 | exact h37) (fun c3 => ?_) (fun c3 => ?_)
                  · refine T_seqk fun K4 hK4 => ?_
                    refine T_regionL ?_ ?_
                    · kernel_rfl
                    simp [↓put_at, ↓AF.ev_tmp, ↓ex_cons, ↓ex_nil, ↓ex_move, ↓ex_binOp, ↓AF.ev_int, ↓ex_fieldAddr, ↓ex_load, ↓ex_buildSlice, ↓ex_assign, aBin, aBinV, aFieldAddr, aload, partOf, abuildSlice, frame0, h1, h2, h1, h2, h5, h1, h2, h12, h1, h2, h21, h1, h2, h37, b1, DOp.row, frzR_id, wa at' ha]
                    refine hK4 _ _ ?_
                    try clear hK4 K4
                    refine T_ret ?_
                    try simp only [thenK_ret, blockT_ret, loopT_ret]
                    -- leaf 3: ret
                    refine owes_out (lo := H.next) (rows := (nextL x at').map irow) (.inr rfl) hwf rfl ?_ (Nat.le_refl _) (.bump (.setBox (by omega) hext)) (by simp [irow])
                    have e : nextL x at' = [at' + 1, x.b] := by
                      simp at c0 c1 c2 c3
                      unfold nextL nextS sort2
                      (repeat' split) <;> first | rfl | (exfalso; omega)
                    rw [e]
                    refine .mk (by omega) (by simp <;> omega) (by simp [irow]) rfl
                  · refine T_skip ?_
                    simp only [thenK_normal, blockT_normal, loopT_normal]
                    refine hK0 _ _ ?_
                    try clear hK0 K0
                    refine T_seqk fun K5 hK5 => ?_
                    refine T_regionL ?_ ?_
                    · kernel_rfl
                    simp [↓put_at, ↓AF.ev_tmp, ↓ex_cons, ↓ex_nil, ↓ex_move, ↓ex_binOp, ↓AF.ev_int, ↓ex_buildSlice, ↓ex_assign, aBin, aBinV, abuildSlice, frame0, h1, h2, h1, h2, h5, h1, h2, h12, h1, h2, h21, h1, h2, h37, b1, DOp.row, frzR_id, wa at' ha]
                    refine hK5 _ _ ?_
                    try clear hK5 K5
                    refine T_ret ?_
                    try simp only [thenK_ret, blockT_ret, loopT_ret]
                    -- leaf 4: ret
                    refine owes_out (lo := H.next) (rows := (nextL x at').map irow) (.inr rfl) hwf rfl ?_ (Nat.le_refl _) (.bump (.setBox (by omega) hext)) (by simp [irow])
                    have e : nextL x at' = [at' + 1] := by
                      simp at c0 c1 c2 c3
                      unfold nextL nextS sort2
                      (repeat' split) <;> first | rfl | (exfalso; omega)
                    rw [e]
                    refine .mk (by omega) (by simp <;> omega) (by simp [irow]) rfl
end Go.Abs
