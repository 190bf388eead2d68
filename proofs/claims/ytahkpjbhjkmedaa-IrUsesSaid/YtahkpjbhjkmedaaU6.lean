import Derived.Test.YtahkpjbhjkmedaaU5
namespace Go.Abs
open Go.Proofs
set_option autoImplicit false
set_option linter.all false
theorem Owes.mono {P : Program} {fn : Func} {H : AS} {k k' : PV → AS → Prop} {e : Exit} {F' : AF} {H' : AS} (hk : ∀ q H, k q H → k' q H) (h : Owes P fn H k e F' H') : Owes P fn H k' e F' H' := by
  unfold Owes at *
  refine ⟨h.1, ?_⟩
  have h2 := h.2
  split at h2
  · obtain ⟨H1, a, b, c, d, e⟩ := h2; exact ⟨H1, a, b, c, d, hk _ _ e⟩
  · exact h2.elim
theorem owes_int {P : Program} {H : AS} {fn : Func} {n : Int} {F' : AF} {H' : AS} {e : Exit} (he : e = .normal ∨ e = .ret) (hwf : WF H) (hr : aResults P F' H' fn.results.toList = some [pi n]) (hext : H.Ext H') :
    Owes P fn H (fun q H'' => (∃ r, q = pi r) ∧ H'' = H) e F' H' :=
  (owes_one (q := pi n) he hwf hr rfl hext (by simp) (by simp)).mono fun q H h => ⟨⟨n, h.1⟩, h.2⟩
theorem aIndex_str {P : Program} {t : TypeId} {s : ByteArray} {k : IntKind} {n : Int} (h0 : 0 ≤ n) (h : n.toNat < s.size) (ht : P.underlying t = some .string := by rfl) : aIndex P t (.val (.string s)) (.val (.int k n)) = some (.val (.int .u8 (s[n.toNat]'h).toNat)) := by
  unfold aIndex; rw [ht]; simp [h0, h]
theorem w2 : IntKind.i64.wrap 2 = 2 := rfl
theorem wu1 : IntKind.u64.wrap 1 = 1 := rfl
theorem wu2 : IntKind.u64.wrap 2 = 2 := rfl
set_option maxRecDepth 100000 in
theorem len64 (H : AS) (n : Int) (h0 : 0 ≤ n) (hn : n < 256) : ACalls Try.prog 25 [.val (.int .u64 n)] H fun q H' => (∃ r, q = pi r) ∧ H' = H := by
  refine ACalls_intro Try.func25 rfl (by kernel_rfl) (by simp) fun hwf hbel => ?_
  refine T_seqk fun K0 hK0 => ?_
  refine T_regionL ?_ ?_
  · kernel_rfl
  simp [↓put_at, ↓AF.ev_tmp, ↓ex_cons, ↓ex_nil, ↓ex_assign, ↓AF.ev_int, frame0]
  refine hK0 _ _ ?_
  try clear hK0 K0
  refine T_seqk fun K1 hK1 => ?_
  refine T_seqk fun K2 hK2 => ?_
  refine T_regionL ?_ ?_
  · kernel_rfl
  simp [↓put_at, ↓AF.ev_tmp, ↓ex_cons, ↓ex_nil, ↓ex_move, ↓ex_binOp, ↓AF.ev_int, aBin, aBinV, frame0]
  refine hK2 _ _ ?_
  try clear hK2 K2
  refine T_cond (rfl) (fun c0 => ?_) (fun c0 => ?_)
  · exfalso; simp at c0; omega --done
  · refine T_skip ?_
    simp only [thenK_normal, blockT_normal, loopT_normal]
    refine hK1 _ _ ?_
    try clear hK1 K1
    refine T_seqk fun K3 hK3 => ?_
    refine T_seqk fun K4 hK4 => ?_
    refine T_regionL ?_ ?_
    · kernel_rfl
    simp [↓put_at, ↓AF.ev_tmp, ↓ex_cons, ↓ex_nil, ↓ex_move, ↓ex_binOp, ↓AF.ev_int, aBin, aBinV, frame0]
    refine hK4 _ _ ?_
    try clear hK4 K4
    refine T_cond (rfl) (fun c1 => ?_) (fun c1 => ?_)
    · exfalso; simp at c1; omega --done
    · refine T_skip ?_
      simp only [thenK_normal, blockT_normal, loopT_normal]
      refine hK3 _ _ ?_
      try clear hK3 K3
      refine T_seqk fun K5 hK5 => ?_
      refine T_seqk fun K6 hK6 => ?_
      refine T_regionL ?_ ?_
      · kernel_rfl
      simp [↓put_at, ↓AF.ev_tmp, ↓ex_cons, ↓ex_nil, ↓ex_move, ↓ex_binOp, ↓AF.ev_int, aBin, aBinV, frame0]
      refine hK6 _ _ ?_
      try clear hK6 K6
      refine T_cond (rfl) (fun c2 => ?_) (fun c2 => ?_)
      · exfalso; simp at c2; omega --done
      · refine T_skip ?_
        simp only [thenK_normal, blockT_normal, loopT_normal]
        refine hK5 _ _ ?_
        try clear hK5 K5
        refine T_seqk fun K7 hK7 => ?_
        refine T_regionL ?_ ?_
        · kernel_rfl
        simp [↓put_at, ↓AF.ev_tmp, ↓ex_cons, ↓ex_nil, ↓ex_move, ↓ex_convert, ↓ex_index, ↓AF.ev_string, ↓ex_binOp, ↓ex_assign, aConvert, aIndex, partOf, aBin, aBinV, frame0, aConvert, wrap_u8 h0 hn, aIndex]
        rw [dif_pos ⟨h0, (show n.toNat < 256 by omega)⟩]
        simp [↓put_at, ↓AF.ev_tmp, ↓ex_cons, ↓ex_nil, ↓ex_move, ↓ex_convert, ↓ex_index, ↓AF.ev_string, ↓ex_binOp, ↓ex_assign, aConvert, aIndex, partOf, aBin, aBinV, frame0]
        refine hK7 _ _ ?_
        try clear hK7 K7
        refine T_ret ?_
        try simp only [thenK_ret, blockT_ret, loopT_ret]
        -- leaf 0: ret
        exact owes_int (.inr rfl) hwf rfl (.refl _)
set_option maxRecDepth 100000 in
theorem lenU (H : AS) (n : Int) (h0 : 0 ≤ n) (hn : n < 256) : ACalls Try.prog 14 [.val (.int .u64 n)] H fun q H' => (∃ r, q = pi r) ∧ H' = H := by
  refine ACalls_intro Try.func14 rfl (by kernel_rfl) (by simp) fun hwf hbel => ?_
  refine T_seqk fun K0 hK0 => ?_
  refine T_regionL ?_ ?_
  · kernel_rfl
  simp [↓put_at, ↓AF.ev_tmp, ↓ex_cons, ↓ex_nil, ↓ex_assign, ↓AF.ev_int, frame0]
  refine hK0 _ _ ?_
  try clear hK0 K0
  refine T_seqk fun K1 hK1 => ?_
  refine T_cond (rfl) (fun c0 => ?_) (fun c0 => ?_)
  · cases c0 --done
  · refine T_skip ?_
    simp only [thenK_normal, blockT_normal, loopT_normal]
    refine hK1 _ _ ?_
    try clear hK1 K1
    refine T_seqk fun K2 hK2 => ?_
    refine T_regionL ?_ ?_
    · kernel_rfl
    simp [↓put_at, ↓AF.ev_tmp, ↓ex_cons, ↓ex_nil, ↓ex_move, ↓ex_call, ↓AF.ev_func, ↓ex_assign, frame0]
    refine callK.of (len64 _ n h0 hn) ?_
    rintro q H2 ⟨⟨r, rfl⟩, rfl⟩
    simp [↓put_at, ↓AF.ev_tmp, ↓ex_cons, ↓ex_nil, ↓ex_move, ↓ex_call, ↓AF.ev_func, ↓ex_assign, frame0]
    refine hK2 _ _ ?_
    try clear hK2 K2
    refine T_ret ?_
    try simp only [thenK_ret, blockT_ret, loopT_ret]
    -- leaf 0: ret
    exact owes_int (.inr rfl) hwf rfl (.refl _)
set_option maxRecDepth 100000 in
theorem pdqOne (H : AS) (id : Nat) (r : Int) : ACalls Try.prog 13 [.msl id 1 1, pi 0, pi 1, pi r] H fun q H' => q = .tuple [] ∧ H' = H := by
  refine ACalls_open Try.func13 rfl (by kernel_rfl) (by simp) fun hwf hbel => ?_
  refine T_seqk fun K0 hK0 => ?_
  refine T_regionL ?_ ?_
  · kernel_rfl
  simp [↓put_at, ↓AF.ev_tmp, ↓ex_cons, ↓ex_nil, ↓ex_assign, ↓AF.ev_bool, frame0]
  refine hK0 _ _ ?_
  try clear hK0 K0
  refine T_seqk fun K1 hK1 => ?_
  refine T_regionL ?_ ?_
  · kernel_rfl
  simp [↓put_at, ↓AF.ev_tmp, ↓ex_cons, ↓ex_nil, ↓ex_assign, ↓AF.ev_bool, frame0]
  refine hK1 _ _ ?_
  try clear hK1 K1
  refine T_block ?_
  refine T_loop (fun k F H' => F 0 = .msl id 1 1 ∧ F 1 = pi 0 ∧ F 2 = pi 1 ∧ H = H') (0) ?_ ?_
  · simp [frame0]
  · rintro k F H' ⟨h0, h1, h2, rfl⟩
    refine T_block ?_
    refine T_seqk fun K2 hK2 => ?_
    refine T_regionL ?_ ?_
    · kernel_rfl
    simp [↓put_at, ↓AF.ev_tmp, ↓ex_cons, ↓ex_nil, ↓ex_move, ↓ex_binOp, ↓ex_assign, aBin, aBinV, frame0, h0, h1, h2, w1]
    refine hK2 _ _ ?_
    try clear hK2 K2
    refine T_seqk fun K3 hK3 => ?_
    refine T_seqk fun K4 hK4 => ?_
    refine T_regionL ?_ ?_
    · kernel_rfl
    simp [↓put_at, ↓AF.ev_tmp, ↓ex_cons, ↓ex_nil, ↓ex_move, ↓ex_binOp, ↓AF.ev_int, aBin, aBinV, frame0, h0, h1, h2]
    refine hK4 _ _ ?_
    try clear hK4 K4
    refine T_cond (by first | rfl | exact h0 | exact h1 | exact h2) (fun c0 => ?_) (fun c0 => ?_)
    · refine T_seqk fun K5 hK5 => ?_
      refine T_regionL ?_ ?_
      · kernel_rfl
      simp [↓put_at, ↓AF.ev_tmp, ↓ex_cons, ↓ex_nil, ↓ex_move, ↓ex_call, ↓AF.ev_func, frame0, h0, h1, h2]
      refine callK.of (insOne _ id) ?_
      rintro _ _ ⟨rfl, rfl⟩
      simp [↓put_at, ↓AF.ev_tmp, ↓ex_cons, ↓ex_nil, ↓ex_move, ↓ex_call, ↓AF.ev_func, frame0, h0, h1, h2]
      refine hK5 _ _ ?_
      try clear hK5 K5
      refine T_ret ?_
      try simp only [thenK_ret, blockT_ret, loopT_ret]
      -- leaf 0: ret
      refine owesO_none (.inr rfl) rfl ⟨rfl, rfl⟩
    · cases c0 --done
set_option maxRecDepth 100000 in
theorem pdqTwo (H : AS) (id : Nat) (r : Int) (a b : Int) (hb : H.box id = some [irow a, irow b]) : ACalls Try.prog 13 [.msl id 2 1, pi 0, pi 2, pi r] H fun q H' => q = .tuple [] ∧ H' = H.setBox id ((sort2 a b).map irow) := by
  refine ACalls_open Try.func13 rfl (by kernel_rfl) (by simp) fun hwf hbel => ?_
  refine T_seqk fun K0 hK0 => ?_
  refine T_regionL ?_ ?_
  · kernel_rfl
  simp [↓put_at, ↓AF.ev_tmp, ↓ex_cons, ↓ex_nil, ↓ex_assign, ↓AF.ev_bool, frame0]
  refine hK0 _ _ ?_
  try clear hK0 K0
  refine T_seqk fun K1 hK1 => ?_
  refine T_regionL ?_ ?_
  · kernel_rfl
  simp [↓put_at, ↓AF.ev_tmp, ↓ex_cons, ↓ex_nil, ↓ex_assign, ↓AF.ev_bool, frame0]
  refine hK1 _ _ ?_
  try clear hK1 K1
  refine T_block ?_
  refine T_loop (fun k F H' => F 0 = .msl id 2 1 ∧ F 1 = pi 0 ∧ F 2 = pi 2 ∧ H = H') (0) ?_ ?_
  · simp [frame0]
  · rintro k F H' ⟨h0, h1, h2, rfl⟩
    refine T_block ?_
    refine T_seqk fun K2 hK2 => ?_
    refine T_regionL ?_ ?_
    · kernel_rfl
    simp [↓put_at, ↓AF.ev_tmp, ↓ex_cons, ↓ex_nil, ↓ex_move, ↓ex_binOp, ↓ex_assign, aBin, aBinV, frame0, h0, h1, h2, w2]
    refine hK2 _ _ ?_
    try clear hK2 K2
    refine T_seqk fun K3 hK3 => ?_
    refine T_seqk fun K4 hK4 => ?_
    refine T_regionL ?_ ?_
    · kernel_rfl
    simp [↓put_at, ↓AF.ev_tmp, ↓ex_cons, ↓ex_nil, ↓ex_move, ↓ex_binOp, ↓AF.ev_int, aBin, aBinV, frame0, h0, h1, h2]
    refine hK4 _ _ ?_
    try clear hK4 K4
    refine T_cond (by first | rfl | exact h0 | exact h1 | exact h2) (fun c0 => ?_) (fun c0 => ?_)
    · refine T_seqk fun K5 hK5 => ?_
      refine T_regionL ?_ ?_
      · kernel_rfl
      simp [↓put_at, ↓AF.ev_tmp, ↓ex_cons, ↓ex_nil, ↓ex_move, ↓ex_call, ↓AF.ev_func, frame0, h0, h1, h2]
      refine callK.of (insTwo _ id a b hb) ?_
      rintro _ _ ⟨rfl, rfl⟩
      simp [↓put_at, ↓AF.ev_tmp, ↓ex_cons, ↓ex_nil, ↓ex_move, ↓ex_call, ↓AF.ev_func, frame0, h0, h1, h2]
      refine hK5 _ _ ?_
      try clear hK5 K5
      refine T_ret ?_
      try simp only [thenK_ret, blockT_ret, loopT_ret]
      -- leaf 0: ret
      refine owesO_none (.inr rfl) rfl ⟨rfl, rfl⟩
    · cases c0 --done
set_option maxRecDepth 100000 in
theorem sortOne (H : AS) (id : Nat) : ACalls Try.prog 12 [.msl id 1 1] H fun q H' => q = .tuple [] ∧ H' = H := by
  refine ACalls_open Try.func12 rfl (by kernel_rfl) (by simp) fun hwf hbel => ?_
  refine T_seqk fun K0 hK0 => ?_
  refine T_regionL ?_ ?_
  · kernel_rfl
  simp [↓put_at, ↓AF.ev_tmp, ↓ex_cons, ↓ex_nil, ↓ex_move, ↓ex_len, ↓ex_assign, aLen, frame0]
  refine hK0 _ _ ?_
  try clear hK0 K0
  refine T_regionL ?_ ?_
  · kernel_rfl
  simp [↓put_at, ↓AF.ev_tmp, ↓ex_cons, ↓ex_nil, ↓ex_move, ↓ex_convert, ↓ex_call, ↓AF.ev_func, ↓AF.ev_int, aConvert, frame0, aConvert, wu1]
  refine callK.of (lenU _ 1 (by decide) (by decide)) ?_
  rintro q H2 ⟨⟨r, rfl⟩, rfl⟩
  simp [↓put_at, ↓AF.ev_tmp, ↓ex_cons, ↓ex_nil, ↓ex_move, ↓ex_convert, ↓ex_call, ↓AF.ev_func, ↓AF.ev_int, aConvert, frame0, aConvert, wu1]
  refine callK.of (pdqOne _ id r) ?_
  rintro _ _ ⟨rfl, rfl⟩
  simp [↓put_at, ↓AF.ev_tmp, ↓ex_cons, ↓ex_nil, ↓ex_move, ↓ex_convert, ↓ex_call, ↓AF.ev_func, ↓AF.ev_int, aConvert, frame0, aConvert, wu1]
  -- leaf 0: normal
  refine owesO_none (.inl rfl) rfl ⟨rfl, rfl⟩
set_option maxRecDepth 100000 in
theorem sortTwo (H : AS) (id : Nat) (a b : Int) (hb : H.box id = some [irow a, irow b]) : ACalls Try.prog 12 [.msl id 2 1] H fun q H' => q = .tuple [] ∧ H' = H.setBox id ((sort2 a b).map irow) := by
  refine ACalls_open Try.func12 rfl (by kernel_rfl) (by simp) fun hwf hbel => ?_
  refine T_seqk fun K0 hK0 => ?_
  refine T_regionL ?_ ?_
  · kernel_rfl
  simp [↓put_at, ↓AF.ev_tmp, ↓ex_cons, ↓ex_nil, ↓ex_move, ↓ex_len, ↓ex_assign, aLen, frame0]
  refine hK0 _ _ ?_
  try clear hK0 K0
  refine T_regionL ?_ ?_
  · kernel_rfl
  simp [↓put_at, ↓AF.ev_tmp, ↓ex_cons, ↓ex_nil, ↓ex_move, ↓ex_convert, ↓ex_call, ↓AF.ev_func, ↓AF.ev_int, aConvert, frame0, aConvert, wu2]
  refine callK.of (lenU _ 2 (by decide) (by decide)) ?_
  rintro q H2 ⟨⟨r, rfl⟩, rfl⟩
  simp [↓put_at, ↓AF.ev_tmp, ↓ex_cons, ↓ex_nil, ↓ex_move, ↓ex_convert, ↓ex_call, ↓AF.ev_func, ↓AF.ev_int, aConvert, frame0, aConvert, wu2]
  refine callK.of (pdqTwo _ id r a b hb) ?_
  rintro _ _ ⟨rfl, rfl⟩
  simp [↓put_at, ↓AF.ev_tmp, ↓ex_cons, ↓ex_nil, ↓ex_move, ↓ex_convert, ↓ex_call, ↓AF.ev_func, ↓AF.ev_int, aConvert, frame0, aConvert, wu2]
  -- leaf 0: normal
  refine owesO_none (.inl rfl) rfl ⟨rfl, rfl⟩
end Go.Abs
