import Derived.Test.YtahkpjbhjkmedaaU1
namespace Go.Abs
open Go.Proofs
set_option autoImplicit false
set_option linter.all false
def usesL (x : DOp) : List Int :=
  if x.code = 2 ∨ x.code = 10 ∨ x.code = 11 then [x.b]
  else if x.code = 4 ∨ x.code = 12 ∨ x.code = 14 ∨ x.code = 15 ∨ x.code = 17 ∨ x.code = 22 then [x.a]
  else if x.code = 5 ∨ x.code = 8 then [x.d]
  else if x.code = 6 then onceL x.a x.d
  else if x.code = 9 then onceL x.b x.c
  else []
set_option maxRecDepth 100000 in
theorem usesOpen (H : AS) (x : DOp) : ACalls Try.prog 4 [.agg x.row] H fun q H' => OutIs H.next H' q 1 ((usesL x).map irow) ∧ H.Ext H' := by
  refine ACalls_open Try.func4 rfl (by kernel_rfl) (by simp) fun hwf hbel => ?_
  refine T_seqk fun K0 hK0 => ?_
  refine T_regionL ?_ ?_
  · kernel_rfl
  simp [↓put_at, ↓AF.ev_tmp, ↓ex_cons, ↓ex_nil, ↓ex_box, ↓ex_assign, ↓AF.ev_slice, abox, frame0]
  refine hK0 _ _ ?_
  try clear hK0 K0
  refine T_seqk fun K1 hK1 => ?_
  refine T_mid (fun F H' => F 1 = .ptr H.next 1 0 0 ∧ F 4 = pi x.code ∧ H'.box H.next = some [x.row] ∧ H.Ext H' ∧ H'.next = H.next + 1) ?_ ?_
  · refine T_regionL ?_ ?_
    · kernel_rfl
    simp [↓put_at, ↓AF.ev_tmp, ↓ex_cons, ↓ex_nil, ↓ex_fieldAddr, ↓ex_load, aFieldAddr, aload, partOf, frame0, DOp.row]
    -- a join
    exact .bump (.setBox (Nat.le_refl _) (.refl _))
  · rintro F H' ⟨h1, h4, b1, hext, hn⟩
    refine T_block ?_
    refine T_mid (fun F H' => F 1 = .ptr H.next 1 0 0 ∧ F 4 = pi x.code ∧ H'.box H.next = some [x.row] ∧ H.Ext H' ∧ H'.next = H.next + 1 ∧ F 5 = pb (decide (x.code = 2 ∨ x.code = 10 ∨ x.code = 11))) ?_ ?_
    · refine T_seqk fun K2 hK2 => ?_
      refine T_regionL ?_ ?_
      · kernel_rfl
      simp [↓put_at, ↓AF.ev_tmp, ↓ex_cons, ↓ex_nil, ↓ex_binOp, ↓AF.ev_int, ↓ex_assign, aBin, aBinV, frame0, h1, h4]
      refine hK2 _ _ ?_
      try clear hK2 K2
      refine T_cond (by first | rfl | exact h1 | exact h4) (fun c0 => ?_) (fun c0 => ?_)
      · refine T_skip ?_
        simp only [thenK_normal, blockT_normal, loopT_normal]
        -- a join
        simp_all [int_beq]
      · refine T_seqk fun K3 hK3 => ?_
        refine T_regionL ?_ ?_
        · kernel_rfl
        simp [↓put_at, ↓AF.ev_tmp, ↓ex_cons, ↓ex_nil, ↓ex_binOp, ↓AF.ev_int, ↓ex_assign, aBin, aBinV, frame0, h1, h4]
        refine hK3 _ _ ?_
        try clear hK3 K3
        refine T_cond (by first | rfl | exact h1 | exact h4) (fun c1 => ?_) (fun c1 => ?_)
        · refine T_skip ?_
          simp only [thenK_normal, blockT_normal, loopT_normal]
          -- a join
          simp_all [int_beq]
        · refine T_regionL ?_ ?_
          · kernel_rfl
          simp [↓put_at, ↓AF.ev_tmp, ↓ex_cons, ↓ex_nil, ↓ex_binOp, ↓AF.ev_int, ↓ex_assign, aBin, aBinV, frame0, h1, h4]
          -- a join
          simp_all [int_beq]
    · rintro F H' ⟨h1, h4, b1, hext, hn, h5⟩
      refine T_cond (by first | rfl | exact h1 | exact h4 | exact h1 | exact h4 | exact h5) (fun c2 => ?_) (fun c2 => ?_)
      · refine T_seqk fun K4 hK4 => ?_
        refine T_regionL ?_ ?_
        · kernel_rfl
        simp [↓put_at, ↓AF.ev_tmp, ↓ex_cons, ↓ex_nil, ↓ex_fieldAddr, ↓ex_load, ↓ex_buildSlice, ↓ex_assign, aFieldAddr, aload, partOf, abuildSlice, frame0, h1, h4, h1, h4, h5, b1, DOp.row, frzR_id]
        refine hK4 _ _ ?_
        try clear hK4 K4
        refine T_ret ?_
        try simp only [thenK_ret, blockT_ret, loopT_ret]
        -- leaf 0: ret
        refine owesO_one (.inr rfl) rfl ⟨?_, ?_⟩
        · simp_all [usesL, irow]
          refine .mk (by omega) (by simp <;> omega) (by simp) rfl
        · exact .bump (.setBox (by omega) hext)
      · refine T_mid (fun F H' => F 1 = .ptr H.next 1 0 0 ∧ F 4 = pi x.code ∧ H'.box H.next = some [x.row] ∧ H.Ext H' ∧ H'.next = H.next + 1 ∧ F 12 = pb (decide (x.code = 4 ∨ x.code = 12 ∨ x.code = 14 ∨ x.code = 15 ∨ x.code = 17 ∨ x.code = 22))) ?_ ?_
        · refine T_seqk fun K5 hK5 => ?_
          refine T_regionL ?_ ?_
          · kernel_rfl
          simp [↓put_at, ↓AF.ev_tmp, ↓ex_cons, ↓ex_nil, ↓ex_binOp, ↓AF.ev_int, ↓ex_assign, aBin, aBinV, frame0, h1, h4, h1, h4, h5]
          refine hK5 _ _ ?_
          try clear hK5 K5
          refine T_cond (by first | rfl | exact h1 | exact h4 | exact h1 | exact h4 | exact h5) (fun c3 => ?_) (fun c3 => ?_)
          · refine T_skip ?_
            simp only [thenK_normal, blockT_normal, loopT_normal]
            -- a join
            simp_all [int_beq]
          · refine T_seqk fun K6 hK6 => ?_
            refine T_regionL ?_ ?_
            · kernel_rfl
            simp [↓put_at, ↓AF.ev_tmp, ↓ex_cons, ↓ex_nil, ↓ex_binOp, ↓AF.ev_int, ↓ex_assign, aBin, aBinV, frame0, h1, h4, h1, h4, h5]
            refine hK6 _ _ ?_
            try clear hK6 K6
            refine T_cond (by first | rfl | exact h1 | exact h4 | exact h1 | exact h4 | exact h5) (fun c4 => ?_) (fun c4 => ?_)
            · refine T_skip ?_
              simp only [thenK_normal, blockT_normal, loopT_normal]
              -- a join
              simp_all [int_beq]
            · refine T_seqk fun K7 hK7 => ?_
              refine T_regionL ?_ ?_
              · kernel_rfl
              simp [↓put_at, ↓AF.ev_tmp, ↓ex_cons, ↓ex_nil, ↓ex_binOp, ↓AF.ev_int, ↓ex_assign, aBin, aBinV, frame0, h1, h4, h1, h4, h5]
              refine hK7 _ _ ?_
              try clear hK7 K7
              refine T_cond (by first | rfl | exact h1 | exact h4 | exact h1 | exact h4 | exact h5) (fun c5 => ?_) (fun c5 => ?_)
              · refine T_skip ?_
                simp only [thenK_normal, blockT_normal, loopT_normal]
                -- a join
                simp_all [int_beq]
              · refine T_seqk fun K8 hK8 => ?_
                refine T_regionL ?_ ?_
                · kernel_rfl
                simp [↓put_at, ↓AF.ev_tmp, ↓ex_cons, ↓ex_nil, ↓ex_binOp, ↓AF.ev_int, ↓ex_assign, aBin, aBinV, frame0, h1, h4, h1, h4, h5]
                refine hK8 _ _ ?_
                try clear hK8 K8
                refine T_cond (by first | rfl | exact h1 | exact h4 | exact h1 | exact h4 | exact h5) (fun c6 => ?_) (fun c6 => ?_)
                · refine T_skip ?_
                  simp only [thenK_normal, blockT_normal, loopT_normal]
                  -- a join
                  simp_all [int_beq]
                · refine T_seqk fun K9 hK9 => ?_
                  refine T_regionL ?_ ?_
                  · kernel_rfl
                  simp [↓put_at, ↓AF.ev_tmp, ↓ex_cons, ↓ex_nil, ↓ex_binOp, ↓AF.ev_int, ↓ex_assign, aBin, aBinV, frame0, h1, h4, h1, h4, h5]
                  refine hK9 _ _ ?_
                  try clear hK9 K9
                  refine T_cond (by first | rfl | exact h1 | exact h4 | exact h1 | exact h4 | exact h5) (fun c7 => ?_) (fun c7 => ?_)
                  · refine T_skip ?_
                    simp only [thenK_normal, blockT_normal, loopT_normal]
                    -- a join
                    simp_all [int_beq]
                  · refine T_regionL ?_ ?_
                    · kernel_rfl
                    simp [↓put_at, ↓AF.ev_tmp, ↓ex_cons, ↓ex_nil, ↓ex_binOp, ↓AF.ev_int, ↓ex_assign, aBin, aBinV, frame0, h1, h4, h1, h4, h5]
                    -- a join
                    simp_all [int_beq]
        · rintro F H' ⟨h1, h4, b1, hext, hn, h12⟩
          refine T_cond (by first | rfl | exact h1 | exact h4 | exact h1 | exact h4 | exact h5 | exact h1 | exact h4 | exact h12) (fun c8 => ?_) (fun c8 => ?_)
          · refine T_seqk fun K10 hK10 => ?_
            refine T_regionL ?_ ?_
            · kernel_rfl
            simp [↓put_at, ↓AF.ev_tmp, ↓ex_cons, ↓ex_nil, ↓ex_fieldAddr, ↓ex_load, ↓ex_buildSlice, ↓ex_assign, aFieldAddr, aload, partOf, abuildSlice, frame0, h1, h4, h1, h4, h5, h1, h4, h12, b1, DOp.row, frzR_id]
            refine hK10 _ _ ?_
            try clear hK10 K10
            refine T_ret ?_
            try simp only [thenK_ret, blockT_ret, loopT_ret]
            -- leaf 1: ret
            refine owesO_one (.inr rfl) rfl ⟨?_, ?_⟩
            · simp_all [usesL, irow]
              refine .mk (by omega) (by simp <;> omega) (by simp) rfl
            · exact .bump (.setBox (by omega) hext)
          · refine T_mid (fun F H' => F 1 = .ptr H.next 1 0 0 ∧ F 4 = pi x.code ∧ H'.box H.next = some [x.row] ∧ H.Ext H' ∧ H'.next = H.next + 1 ∧ F 22 = pb (decide (x.code = 5 ∨ x.code = 8))) ?_ ?_
            · refine T_seqk fun K11 hK11 => ?_
              refine T_regionL ?_ ?_
              · kernel_rfl
              simp [↓put_at, ↓AF.ev_tmp, ↓ex_cons, ↓ex_nil, ↓ex_binOp, ↓AF.ev_int, ↓ex_assign, aBin, aBinV, frame0, h1, h4, h1, h4, h5, h1, h4, h12]
              refine hK11 _ _ ?_
              try clear hK11 K11
              refine T_cond (by first | rfl | exact h1 | exact h4 | exact h1 | exact h4 | exact h5 | exact h1 | exact h4 | exact h12) (fun c9 => ?_) (fun c9 => ?_)
              · refine T_skip ?_
                simp only [thenK_normal, blockT_normal, loopT_normal]
                -- a join
                simp_all [int_beq]
              · refine T_regionL ?_ ?_
                · kernel_rfl
                simp [↓put_at, ↓AF.ev_tmp, ↓ex_cons, ↓ex_nil, ↓ex_binOp, ↓AF.ev_int, ↓ex_assign, aBin, aBinV, frame0, h1, h4, h1, h4, h5, h1, h4, h12]
                -- a join
                simp_all [int_beq]
            · rintro F H' ⟨h1, h4, b1, hext, hn, h22⟩
              refine T_cond (by first | rfl | exact h1 | exact h4 | exact h1 | exact h4 | exact h5 | exact h1 | exact h4 | exact h12 | exact h1 | exact h4 | exact h22) (fun c10 => ?_) (fun c10 => ?_)
              · refine T_seqk fun K12 hK12 => ?_
                refine T_regionL ?_ ?_
                · kernel_rfl
                simp [↓put_at, ↓AF.ev_tmp, ↓ex_cons, ↓ex_nil, ↓ex_fieldAddr, ↓ex_load, ↓ex_buildSlice, ↓ex_assign, aFieldAddr, aload, partOf, abuildSlice, frame0, h1, h4, h1, h4, h5, h1, h4, h12, h1, h4, h22, b1, DOp.row, frzR_id]
                refine hK12 _ _ ?_
                try clear hK12 K12
                refine T_ret ?_
                try simp only [thenK_ret, blockT_ret, loopT_ret]
                -- leaf 2: ret
                refine owesO_one (.inr rfl) rfl ⟨?_, ?_⟩
                · simp_all [usesL, irow]
                  refine .mk (by omega) (by simp <;> omega) (by simp) rfl
                · exact .bump (.setBox (by omega) hext)
              · refine T_seqk fun K13 hK13 => ?_
                refine T_regionL ?_ ?_
                · kernel_rfl
                simp [↓put_at, ↓AF.ev_tmp, ↓ex_cons, ↓ex_nil, ↓ex_binOp, ↓AF.ev_int, ↓ex_assign, aBin, aBinV, frame0, h1, h4, h1, h4, h5, h1, h4, h12, h1, h4, h22]
                refine hK13 _ _ ?_
                try clear hK13 K13
                refine T_cond (by first | rfl | exact h1 | exact h4 | exact h1 | exact h4 | exact h5 | exact h1 | exact h4 | exact h12 | exact h1 | exact h4 | exact h22) (fun c11 => ?_) (fun c11 => ?_)
                · refine T_seqk fun K14 hK14 => ?_
                  refine T_regionL ?_ ?_
                  · kernel_rfl
                  simp [↓put_at, ↓AF.ev_tmp, ↓ex_cons, ↓ex_nil, ↓ex_fieldAddr, ↓ex_load, ↓ex_call, ↓AF.ev_func, ↓ex_assign, aFieldAddr, aload, partOf, frame0, h1, h4, h1, h4, h5, h1, h4, h12, h1, h4, h22, b1, DOp.row]
                  refine callK.of (onceOpen _ x.a x.d) ?_
                  rintro q H2 ⟨hq, hext2⟩
                  simp [↓put_at, ↓AF.ev_tmp, ↓ex_cons, ↓ex_nil, ↓ex_fieldAddr, ↓ex_load, ↓ex_call, ↓AF.ev_func, ↓ex_assign, aFieldAddr, aload, partOf, frame0, h1, h4, h1, h4, h5, h1, h4, h12, h1, h4, h22, b1, DOp.row]
                  refine hK14 _ _ ?_
                  try clear hK14 K14
                  refine T_ret ?_
                  try simp only [thenK_ret, blockT_ret, loopT_ret]
                  -- leaf 3: ret
                  refine owesO_one (.inr rfl) rfl ⟨?_, hext.trans hext2⟩
                  simp_all [usesL]
                  exact hq.lower (by omega)
                · refine T_seqk fun K15 hK15 => ?_
                  refine T_regionL ?_ ?_
                  · kernel_rfl
                  simp [↓put_at, ↓AF.ev_tmp, ↓ex_cons, ↓ex_nil, ↓ex_binOp, ↓AF.ev_int, ↓ex_assign, aBin, aBinV, frame0, h1, h4, h1, h4, h5, h1, h4, h12, h1, h4, h22]
                  refine hK15 _ _ ?_
                  try clear hK15 K15
                  refine T_cond (by first | rfl | exact h1 | exact h4 | exact h1 | exact h4 | exact h5 | exact h1 | exact h4 | exact h12 | exact h1 | exact h4 | exact h22) (fun c12 => ?_) (fun c12 => ?_)
                  · refine T_seqk fun K16 hK16 => ?_
                    refine T_regionL ?_ ?_
                    · kernel_rfl
                    simp [↓put_at, ↓AF.ev_tmp, ↓ex_cons, ↓ex_nil, ↓ex_fieldAddr, ↓ex_load, ↓ex_call, ↓AF.ev_func, ↓ex_assign, aFieldAddr, aload, partOf, frame0, h1, h4, h1, h4, h5, h1, h4, h12, h1, h4, h22, b1, DOp.row]
                    refine callK.of (onceOpen _ x.b x.c) ?_
                    rintro q H2 ⟨hq, hext2⟩
                    simp [↓put_at, ↓AF.ev_tmp, ↓ex_cons, ↓ex_nil, ↓ex_fieldAddr, ↓ex_load, ↓ex_call, ↓AF.ev_func, ↓ex_assign, aFieldAddr, aload, partOf, frame0, h1, h4, h1, h4, h5, h1, h4, h12, h1, h4, h22, b1, DOp.row]
                    refine hK16 _ _ ?_
                    try clear hK16 K16
                    refine T_ret ?_
                    try simp only [thenK_ret, blockT_ret, loopT_ret]
                    -- leaf 4: ret
                    refine owesO_one (.inr rfl) rfl ⟨?_, hext.trans hext2⟩
                    simp_all [usesL]
                    exact hq.lower (by omega)
                  · refine T_skip ?_
                    simp only [thenK_normal, blockT_normal, loopT_normal]
                    refine hK1 _ _ ?_
                    try clear hK1 K1
                    refine T_seqk fun K17 hK17 => ?_
                    refine T_regionL ?_ ?_
                    · kernel_rfl
                    simp [↓put_at, ↓AF.ev_tmp, ↓ex_cons, ↓ex_nil, ↓ex_assign, ↓AF.ev_slice, frame0, h1, h4, h1, h4, h5, h1, h4, h12, h1, h4, h22]
                    refine hK17 _ _ ?_
                    try clear hK17 K17
                    refine T_ret ?_
                    try simp only [thenK_ret, blockT_ret, loopT_ret]
                    -- leaf 5: ret
                    refine owesO_one (.inr rfl) rfl ⟨?_, hext⟩
                    simp_all [usesL]
                    exact .nil
end Go.Abs
