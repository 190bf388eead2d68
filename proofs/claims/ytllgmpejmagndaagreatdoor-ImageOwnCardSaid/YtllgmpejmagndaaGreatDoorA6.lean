/- Texts of ours, merged: the abstract layer, the walks over the loaded functions, the plain laws. -/
import Derived.Test.YtllgmpejmagndaaGreatDoorA5
import Derived.Test.YtllgmpejmagndaaGreatDoorA2
namespace Go.Abs
open Go.Proofs
set_option autoImplicit false
set_option linter.all false
set_option maxRecDepth 100000
set_option maxHeartbeats 40000000
section
attribute [local simp] Gs_true Gs_false gcond_Gr Gr_true Gr_false abox frame0 int_beq int_bne aload astore partOf splice aUn aFieldAddr aField aBin aBinV aConvert aExtract aLen aBuild aBuild.go aalloc AS.Ext.refl AS.Ext.bump AS.Ext.setBox
def upb (b : UInt8) : UInt8 := if 97 ≤ b.toNat ∧ b.toNat ≤ 122 then b - 32 else b
def upS (s : ByteArray) : ByteArray := ⟨(s.data.toList.map upb).toArray⟩
def upRows (s : ByteArray) (i : Nat) : List (List PV) := ((s.data.toList.take i).map upb ++ s.data.toList.drop i).map brow
theorem upRows_zero (s : ByteArray) : upRows s 0 = s.data.toList.map brow := by simp [upRows]
theorem upRows_length (s : ByteArray) (i : Nat) (h : i ≤ s.size) : (upRows s i).length = s.size := by
 have : s.data.toList.length = s.size := by simp
 simp [upRows]; omega
theorem byteAt_nat (s : ByteArray) (i : Nat) (h : i < s.size) : byteAt s i = ((s.data.toList[i]'(by simpa using h)).toNat : Int) := by
 have : s.data.toList.length = s.size := by simp
 unfold byteAt
 rw [Int.toNat_natCast, List.getElem?_eq_getElem (by omega)]; rfl
theorem upRows_get (s : ByteArray) (i : Nat) (h : i < s.size) : (upRows s i)[i]? = some [.val (.int .u8 (byteAt s i))] := by
 have hl : s.data.toList.length = s.size := by simp
 unfold upRows
 rw [List.getElem?_map, List.getElem?_append_right (by simp; omega), byteAt_nat s i h]
 simp only [List.length_map, List.length_take, List.getElem?_drop]
 rw [show i + (i - min i s.data.toList.length) = i by omega, List.getElem?_eq_getElem (by omega)]
 rfl
theorem upRows_step (s : ByteArray) (i : Nat) (h : i < s.size) : (upRows s i).set i (brow (upb (s.data.toList[i]'(by simpa using h)))) = upRows s (i + 1) := by
 have hl : s.data.toList.length = s.size := by simp
 unfold upRows
 rw [← List.map_set, List.set_append_right _ _ (by simp; omega)]
 simp only [List.length_map, List.length_take]
 rw [show i - min i s.data.toList.length = 0 by omega, List.drop_eq_getElem_cons (by omega), List.set_cons_zero, List.take_succ_eq_append_getElem (by omega)]
 simp
theorem upRows_low (s : ByteArray) (i : Nat) (h : i < s.size) (h1 : 97 ≤ byteAt s i) (h2 : byteAt s i ≤ 122) : (upRows s i).set i [.val (.int .u8 (byteAt s i - 32))] = upRows s (i + 1) := by
 rw [← upRows_step s i h]
 rw [byteAt_nat s i h] at h1 h2 ⊢
 unfold upb brow
 rw [if_pos (by omega)]
 have : (s.data.toList[i]'(by simpa using h) - 32).toNat = (s.data.toList[i]'(by simpa using h)).toNat - 32 := by
  rw [UInt8.toNat_sub_of_le _ _ (by rw [UInt8.le_iff_toNat_le]; show 32 ≤ _; omega)]; rfl
 rw [this]
 congr 5
 omega
theorem upRows_high (s : ByteArray) (i : Nat) (h : i < s.size) (h1 : ¬ (97 ≤ byteAt s i ∧ byteAt s i ≤ 122)) : upRows s i = upRows s (i + 1) := by
 rw [← upRows_step s i h]
 have hg := upRows_get s i h
 rw [byteAt_nat s i h] at h1 hg
 unfold upb
 rw [if_neg (by omega)]
 obtain ⟨hi, e⟩ := List.getElem?_eq_some_iff.1 hg
 rw [show brow (s.data.toList[i]'(by simpa using h)) = (upRows s i)[i] from e.symm, List.set_getElem_self]
theorem upRows_all (s : ByteArray) : bytesOfRows (upRows s s.size) = some (s.data.toList.map upb) := by
 have hl : s.data.toList.length = s.size := by simp
 unfold upRows
 rw [List.take_of_length_le (by omega), List.drop_eq_nil_of_le (by omega), List.append_nil]
 exact bytesOfRows_map _
theorem under28 : Tryz.prog.underlying 28 = some (.slice 5) := by kernel_rfl
theorem under5 : Tryz.prog.underlying 5 = some (.int .u8) := by kernel_rfl
theorem under9 : Tryz.prog.underlying 9 = some .string := by kernel_rfl
theorem size5 : szOf Tryz.prog 5 = some 1 := by kernel_rfl
theorem toBytes (H : AS) (s : ByteArray) : aToBytes Tryz.prog H 9 28 (.val (.string s)) = some (.msl H.next s.size 1, (H.setBox H.next (s.data.toList.map brow)).bump 1) := by
 unfold aToBytes; rw [under9, under28]; simp only [under5]
theorem conv928 (s : ByteArray) : aConvert Tryz.prog 9 28 (.val (.string s)) = none ∧ aToString Tryz.prog 9 28 (.val (.string s)) = none ∧ ∀ H, aToStringM Tryz.prog H 9 28 (.val (.string s)) = none := by
 refine ⟨?_, ?_, fun H => ?_⟩
 unfold aConvert; rw [under9, under28]
 unfold aToString; rw [under9, under28]
 unfold aToStringM; rw [under9, under28]
theorem conv289 (id n sz : Nat) : aConvert Tryz.prog 28 9 (.msl id n sz) = none ∧ aToString Tryz.prog 28 9 (.msl id n sz) = none := by
 refine ⟨?_, ?_⟩
 unfold aConvert; rw [under9, under28]
 unfold aToString; rw [under9, under28]
theorem toStr {H : AS} {id n : Nat} {rows : List (List PV)} {l : List UInt8} (hb : H.box id = some rows) (hl : rows.length = n) (h : bytesOfRows rows = some l) : aToStringM Tryz.prog H 28 9 (.msl id n 1) = some (.val (.string ⟨l.toArray⟩)) := by
 unfold aToStringM; rw [under9, under28]; simp only [under5, hb, hl, h, and_self, if_true, Option.map_some]
theorem idx28 (id n i : Nat) (h : i < n) : aIndexAddr Tryz.prog 28 (.msl id n 1) (pi i) = some (.ptr id n i 0) := by
 unfold aIndexAddr; rw [under28]; simp [size5, amsl h]
theorem rUpper (H : AS) (s : ByteArray) (hs : s.size ≤ 281474976710656) : ACalls Tryz.prog 114 [ps s] H fun q H' => q = ps (upS s) ∧ H' = H := by
 refine ACalls_intro Tryz.func114 rfl (by kernel_rfl) (by simp) fun hwf hbel => ?_
 repeat' first
  | refine T_seq ?_
  | refine T_rgn ?_
  | refine T_cd ?_
  | refine T_sk ?_
  | refine T_rt ?_
  | refine T_block ?_
  | refine T_ex ?_
  | refine Kt_then ?_
  | refine Kt_block ?_
  | refine Kr_then ?_
  | refine Kr_block ?_
  | refine Ke_here ?_
  | refine Ke_then ?_
  | refine Hid.mk ?_
  | refine Gs.mk (fun g => ?_) (fun g => ?_) <;> (try simp only [nm0] at g)
  | refine Gr.mk (fun g => ?_) (fun g => ?_) <;> (try simp only [nm0] at g)
  | (refine Run.of ?_; simp (disch := first | omega | assumption | (simp; done) | fail) [*, idx28, wrap_i64, wrap_u8, toBytes, conv928, conv289])
 all_goals (try (refine Kx.mk ?_; refine owes_one (.inr rfl) hwf rfl ?_ ?_ ?_ ?_ <;> (try simp (maxDischargeDepth := 20) [*])))
 refine T_lp (fun k F H' => ∃ i : Nat, k = s.size - i ∧ i ≤ s.size ∧ F 3 = .msl H.next s.size 1 ∧ F 8 = pi s.size ∧ F 9 = pi i ∧ H'.box H.next = some (upRows s i) ∧ H.Ext H') (s.size) ?_ ?_
 refine ⟨0, by omega, by omega, by simp, by simp, by simp, by simp [upRows_zero], ?_⟩
 exact .bump (.setBox (Nat.le_refl _) (.refl _))
 rintro k F H1 ⟨i, rfl, hi, g3, g8, g9, hb, hx⟩
 have hlen := upRows_length s i hi
 have hget := upRows_get s i
 have hget2 : ∀ h : i < (upRows s i).length, (upRows s i)[i]'h = [.val (.int .u8 (byteAt s i))] := fun h => (List.getElem?_eq_some_iff.1 (hget (by omega))).2
 have hstr : ¬ i < s.size → aToStringM Tryz.prog H1 28 9 (.msl H.next s.size 1) = some (ps (upS s)) := fun h => by
  obtain rfl : i = s.size := by omega
  exact toStr hb hlen (upRows_all s)
 repeat' first
  | refine T_seq ?_
  | refine T_rgn ?_
  | refine T_cd ?_
  | refine T_sk ?_
  | refine T_rt ?_
  | refine T_block ?_
  | refine T_ex ?_
  | refine Kt_then ?_
  | refine Kt_block ?_
  | refine Kr_then ?_
  | refine Kr_block ?_
  | refine Kr_loop ?_
  | refine Ke_here ?_
  | refine Ke_then ?_
  | refine Ke_loop ?_
  | refine Ke_block ?_
  | refine Hid.mk ?_
  | refine Gs.mk (fun g => ?_) (fun g => ?_) <;> (try simp only [nm0] at g)
  | refine Gr.mk (fun g => ?_) (fun g => ?_) <;> (try simp only [nm0] at g)
  | (refine Run.of ?_; simp (disch := first | omega | assumption | (simp; done) | fail) [*, idx28, wrap_i64, wrap_u8, toBytes, conv928, conv289])
 all_goals (try (refine Kx.mk ?_; refine owes_one (.inr rfl) hwf rfl ?_ ?_ ?_ ?_ <;> (try simp (maxDischargeDepth := 20) [*])))
 all_goals (try (refine Kt_loop ⟨_, ?_, i + 1, rfl, by omega, by simp [*], by simp [*], by simp [*], ?_, ?_⟩ <;> first | omega | (simp [*, upRows_low s i (by assumption) (by assumption) (by assumption)]; done) | (rw [← upRows_high s i (by assumption) (by omega)]; simp [*]; done) | (simp [*]; done) | exact .setBox (Nat.le_refl _) hx | exact hx))
 all_goals trace_state
end
section
attribute [local simp] Gs_true Gs_false gcond_Gr Gr_true Gr_false abox frame0 int_beq int_bne aload astore partOf Keeps Same splice aUn aFieldAddr aField aBin aBinV aConvert aExtract aLen aBuild aBuild.go aalloc AS.Ext.refl AS.Ext.bump AS.Ext.setBox
theorem dec_spec (u : Nat) : (∀ b ∈ Lib.decDigits u, 48 ≤ b.toNat ∧ b.toNat ≤ 57) ∧ Lib.decDigits u ≠ [] ∧ (1 < (Lib.decDigits u).length → (Lib.decDigits u).head? ≠ some 48) := by
 have key : ∀ n u, u ≤ n → (∀ b ∈ Lib.decDigits u, 48 ≤ b.toNat ∧ b.toNat ≤ 57) ∧ Lib.decDigits u ≠ [] ∧ (u = 0 ∨ (Lib.decDigits u).head? ≠ some 48) := by
  intro n
  induction n with
  | zero =>
   intro u hu
   obtain rfl : u = 0 := by omega
   rw [Lib.decDigits]
   simp
  | succ n ih =>
   intro u hu
   rw [Lib.decDigits]
   by_cases h : u < 10
   ·rw [dif_pos h]
    have e : (UInt8.ofNat (48 + u)).toNat = 48 + u := by rw [UInt8.toNat_ofNat']; omega
    refine ⟨fun b hb => by rw [List.mem_singleton] at hb; subst hb; omega, by simp, ?_⟩
    by_cases h0 : u = 0
    ·exact .inl h0
    ·right
     simp only [List.head?_cons, ne_eq, Option.some.injEq]
     intro he
     have := congrArg UInt8.toNat he
     rw [e] at this
     simp at this
     omega
   ·rw [dif_neg h]
    obtain ⟨a1, a2, a3⟩ := ih (u / 10) (by omega)
    have e : (UInt8.ofNat (48 + u % 10)).toNat = 48 + u % 10 := by rw [UInt8.toNat_ofNat']; omega
    refine ⟨fun b hb => ?_, by simp, .inr ?_⟩
    ·rcases List.mem_append.1 hb with hb | hb
     ·exact a1 b hb
     ·rw [List.mem_singleton] at hb; subst hb; omega
    ·rcases a3 with a3 | a3
     ·omega
     ·cases e2 : Lib.decDigits (u / 10) with
      | nil => exact absurd e2 a2
      | cons b r => rw [e2] at a3; exact a3
 obtain ⟨h1, h2, h3⟩ := key u u (Nat.le_refl _)
 refine ⟨h1, h2, fun hl => ?_⟩
 rcases h3 with rfl | h3
 rw [Lib.decDigits] at hl; simp at hl
 exact h3
theorem byteAt_size {s : ByteArray} (i : Nat) (h : i < s.size) : ∃ b ∈ s.data.toList, byteAt s i = (b.toNat : Int) := by
 have hl : s.data.toList.length = s.size := by simp
 exact ⟨_, List.getElem_mem (by omega), byteAt_nat s i h⟩
theorem canon {t : ByteArray} {n : Int} (hn : ¬ n < 0) (h : itoaS n = t) : 1 ≤ t.size ∧ (∀ i : Nat, i < t.size → 48 ≤ byteAt t i ∧ byteAt t i ≤ 57) ∧ (1 < t.size → byteAt t 0 ≠ 48) := by
 have e : t.data.toList = Lib.decDigits n.toNat := by
  rw [← h]; unfold itoaS Lib.itoa; rw [if_neg hn]
 have hl : t.data.toList.length = t.size := by simp
 obtain ⟨h1, h2, h3⟩ := dec_spec n.toNat
 rw [← e] at h1 h2 h3
 refine ⟨?_, fun i hi => ?_, fun hs => ?_⟩
 have := List.length_pos_iff.2 h2; omega
 obtain ⟨b, hb, e2⟩ := byteAt_size i hi
 have := h1 b hb; omega
 intro h0
 have h4 := h3 (by omega)
 have := byteAt_nat t 0 (by omega)
 rw [Int.natCast_zero] at this
 rw [this] at h0
 refine h4 ?_
 rw [List.head?_eq_getElem?, List.getElem?_eq_getElem (by omega)]
 congr 1
 exact UInt8.toNat_inj.1 (by exact_mod_cast h0)
theorem byteAt_tl3 (s : ByteArray) (i : Nat) (h : i + 3 < s.size) : byteAt (tl3 s) i = byteAt s ((i + 3 : Nat) : Int) := by
 have hl : s.data.toList.length = s.size := by simp
 have hl2 : (tl3 s).data.toList.length = (tl3 s).size := by simp
 have := tl3_size s
 rw [byteAt_nat _ i (by omega), byteAt_nat _ (i + 3) h]
 congr 2
 unfold tl3
 simp only [ByteArray.data_extract, Array.getElem_toList, Array.getElem_extract]
 congr 1
 omega
theorem byteAt_dl2 (s : ByteArray) (i : Nat) (h : i + 2 < s.size) : byteAt (dl2 s) i = byteAt s i := by
 have hl : s.data.toList.length = s.size := by simp
 have hl2 : (dl2 s).data.toList.length = (dl2 s).size := by simp
 have := dl2_size s
 rw [byteAt_nat _ i (by omega), byteAt_nat _ i (by omega)]
 congr 2
 unfold dl2
 simp only [ByteArray.data_extract, Array.getElem_toList, Array.getElem_extract]
 congr 1
 omega
theorem byteAt_pre (s : ByteArray) (n i : Nat) (h : i < n) (hn : n ≤ s.size) : byteAt (s.extract 0 n) i = byteAt s i := by
 have hl : s.data.toList.length = s.size := by simp
 have hz : (s.extract 0 n).size = n := by simp; omega
 have hl2 : (s.extract 0 n).data.toList.length = (s.extract 0 n).size := by simp
 rw [byteAt_nat _ i (by omega), byteAt_nat _ i (by omega)]
 congr 2
 simp only [ByteArray.data_extract, Array.getElem_toList, Array.getElem_extract]
 congr 1
 omega
theorem byteAt_u8 (s : ByteArray) (i : Int) : ∃ b : UInt8, byteAt s i = (b.toNat : Int) := ⟨_, rfl⟩
theorem byteAt_lt (s : ByteArray) (i : Int) : 0 ≤ byteAt s i ∧ byteAt s i < 256 := by
 obtain ⟨b, e⟩ := byteAt_u8 s i
 have := b.toNat_lt
 omega
theorem idx_ne {x : Int} (h0 : 0 ≤ x) (h1 : x < 256) (c : UInt8) : ((c == x.toNat.toUInt8) = true) ↔ x = c.toNat := by
 have e : x.toNat.toUInt8.toNat = x.toNat := by
  show (UInt8.ofNat x.toNat).toNat = x.toNat
  rw [UInt8.toNat_ofNat']; omega
 constructor
 intro h
 rw [beq_iff_eq] at h
 rw [h, e]; omega
 intro h
 rw [beq_iff_eq]
 exact UInt8.toNat_inj.1 (by rw [e]; omega)
theorem dirs {x : Int} (h0 : 0 ≤ x) (h1 : x < 256) (h : ¬ indexB ⟨#[77, 73, 81]⟩ x < 0) : x = 77 ∧ indexB ⟨#[77, 73, 81]⟩ x = 0 ∨ x = 73 ∧ indexB ⟨#[77, 73, 81]⟩ x = 1 ∨ x = 81 ∧ indexB ⟨#[77, 73, 81]⟩ x = 2 := by
 have k := idx_ne h0 h1
 by_cases a : x = 77
 subst a; left; exact ⟨rfl, by decide⟩
 by_cases b : x = 73
 subst b; right; left; exact ⟨rfl, by decide⟩
 by_cases c : x = 81
 subst c; right; right; exact ⟨rfl, by decide⟩
 exfalso; apply h
 have k1 := (not_congr (k 77)).2 a
 have k2 := (not_congr (k 73)).2 b
 have k3 := (not_congr (k 81)).2 c
 simp only [Bool.not_eq_true] at k1 k2 k3
 simp [indexB, Lib.indexByte, k1, k2, k3]
theorem kinds {x : Int} (h0 : 0 ≤ x) (h1 : x < 256) (h : ¬ indexB ⟨#[88, 66, 87, 68, 76]⟩ x < 0) : x = 88 ∧ indexB ⟨#[88, 66, 87, 68, 76]⟩ x = 0 ∨ x = 66 ∧ indexB ⟨#[88, 66, 87, 68, 76]⟩ x = 1 ∨ x = 87 ∧ indexB ⟨#[88, 66, 87, 68, 76]⟩ x = 2 ∨ x = 68 ∧ indexB ⟨#[88, 66, 87, 68, 76]⟩ x = 3 ∨ x = 76 ∧ indexB ⟨#[88, 66, 87, 68, 76]⟩ x = 4 := by
 have k := idx_ne h0 h1
 by_cases a : x = 88
 subst a; left; exact ⟨rfl, by decide⟩
 by_cases b : x = 66
 subst b; right; left; exact ⟨rfl, by decide⟩
 by_cases c : x = 87
 subst c; right; right; left; exact ⟨rfl, by decide⟩
 by_cases d : x = 68
 subst d; right; right; right; left; exact ⟨rfl, by decide⟩
 by_cases e : x = 76
 subst e; right; right; right; right; exact ⟨rfl, by decide⟩
 exfalso; apply h
 have k1 := (not_congr (k 88)).2 a
 have k2 := (not_congr (k 66)).2 b
 have k3 := (not_congr (k 87)).2 c
 have k4 := (not_congr (k 68)).2 d
 have k5 := (not_congr (k 76)).2 e
 simp only [Bool.not_eq_true] at k1 k2 k3 k4 k5
 simp [indexB, Lib.indexByte, k1, k2, k3, k4, k5]
structure AddrF (s : ByteArray) (e : Nat) : Prop where
 e4 : 4 ≤ e
 e7 : e ≤ 7
 es : e ≤ s.size
 b0 : byteAt s 0 = 37
 b1 : byteAt s 1 = 77 ∧ (addrR s).2.1 = 0 ∨ byteAt s 1 = 73 ∧ (addrR s).2.1 = 1 ∨ byteAt s 1 = 81 ∧ (addrR s).2.1 = 2
 dig : ∀ i : Nat, 3 ≤ i → i < e → 48 ≤ byteAt s i ∧ byteAt s i ≤ 57
 nz : 4 < e → byteAt s 3 ≠ 48
 b2 : byteAt s 2 = 88 ∧ (addrR s).1 = 1 ∧ s.size = e + 2 ∧ byteAt s e = 46 ∧ 48 ≤ byteAt s (e + 1) ∧ byteAt s (e + 1) ≤ 55 ∨ s.size = e ∧ (byteAt s 2 = 66 ∧ (addrR s).1 = 8 ∨ byteAt s 2 = 87 ∧ (addrR s).1 = 16 ∨ byteAt s 2 = 68 ∧ (addrR s).1 = 32 ∨ byteAt s 2 = 76 ∧ (addrR s).1 = 64)
theorem addr_facts {s : ByteArray} (h : (addrR s).2.2 = true) : ∃ e, AddrF s e := by
 have hd := @dirs (byteAt s 1) (byteAt_lt s 1).1 (byteAt_lt s 1).2
 have hk := @kinds (byteAt s 2) (byteAt_lt s 2).1 (byteAt_lt s 2).2
 rw [show indexB ⟨#[88, 66, 87, 68, 76]⟩ (byteAt s 2) = xB s from rfl] at hk
 have h3 := tl3_size s
 have h5 := dl2_size (tl3 s)
 rw [addrR] at h
 by_cases g4 : (s.size : Int) < 4
 rw [if_pos g4] at h; exact nomatch h
 rw [if_neg g4] at h
 by_cases g37 : byteAt s 0 = 37
 rotate_left
 rw [if_neg g37] at h; exact nomatch h
 rw [if_pos g37] at h
 by_cases gd : indexB ⟨#[77, 73, 81]⟩ (byteAt s 1) < 0
 rw [if_pos gd] at h; exact nomatch h
 rw [if_neg gd] at h
 by_cases gx : xB s < 0
 rw [if_pos gx] at h; exact nomatch h
 rw [if_neg gx] at h
 have hd := hd gd
 have hk := hk gx
 by_cases gx0 : xB s = 0
 ·rw [if_pos gx0] at h
  by_cases g3 : ((tl3 s).size : Int) < 3
  ·rw [if_pos g3] at h; exact nomatch h
  rw [if_neg g3] at h
  by_cases g46 : byteAt (tl3 s) (((tl3 s).size : Int) - 2) = 46
  rotate_left
  ·rw [if_neg g46] at h; exact nomatch h
  rw [if_pos g46] at h
  by_cases g48 : byteAt (tl3 s) (((tl3 s).size : Int) - 1) < 48
  ·rw [if_pos g48] at h; exact nomatch h
  rw [if_neg g48] at h
  by_cases g55 : 55 < byteAt (tl3 s) (((tl3 s).size : Int) - 1)
  ·rw [if_pos g55] at h; exact nomatch h
  rw [if_neg g55] at h
  by_cases gok : atoiOk (dl2 (tl3 s)) = true
  rotate_left
  ·rw [if_neg gok] at h; exact nomatch h
  rw [if_pos gok] at h
  by_cases gn : atoiN (dl2 (tl3 s)) < 0
  ·rw [if_pos gn] at h; exact nomatch h
  rw [if_neg gn] at h
  by_cases gl : 4 < ((dl2 (tl3 s)).size : Int)
  ·rw [if_pos gl] at h; exact nomatch h
  rw [if_neg gl] at h
  by_cases gc : itoaS (atoiN (dl2 (tl3 s))) = (dl2 (tl3 s))
  rotate_left
  ·rw [if_neg gc] at h; exact nomatch h
  rw [if_pos gc] at h
  have hv : addrR s = (1, indexB ⟨#[77, 73, 81]⟩ (byteAt s 1), true) := by
   rw [addrR, if_neg g4, if_pos g37, if_neg gd, if_neg gx, if_pos gx0, if_neg g3, if_pos g46, if_neg g48, if_neg g55, if_pos gok, if_neg gn, if_neg gl, if_pos gc]
  obtain ⟨c1, c2, c3⟩ := canon gn gc
  have t1 := byteAt_tl3 s ((tl3 s).size - 2) (by omega)
  have t2 := byteAt_tl3 s ((tl3 s).size - 1) (by omega)
  rw [show (((tl3 s).size : Int) - 2) = (((tl3 s).size - 2 : Nat) : Int) by omega, t1] at g46
  rw [show (((tl3 s).size : Int) - 1) = (((tl3 s).size - 1 : Nat) : Int) by omega, t2] at g48 g55
  refine ⟨s.size - 2, by omega, by omega, by omega, g37, by rw [hv]; exact hd, fun i hi hi2 => ?_, fun h4 => ?_, .inl ⟨by omega, by rw [hv], by omega, ?_, ?_, ?_⟩⟩
  ·have := c2 (i - 3) (by omega)
   rw [byteAt_dl2 _ _ (by omega), byteAt_tl3 _ _ (by omega), show i - 3 + 3 = i by omega] at this
   exact this
  ·have := c3 (by omega)
   rw [show (0 : Int) = ((0 : Nat) : Int) from rfl, byteAt_dl2 _ _ (by omega), byteAt_tl3 _ _ (by omega)] at this
   exact this
  ·rw [show s.size - 2 = (tl3 s).size - 2 + 3 by omega]; exact g46
  ·rw [show (((s.size - 2 : Nat) : Int) + 1) = (((tl3 s).size - 1 + 3 : Nat) : Int) by omega]; omega
  ·rw [show (((s.size - 2 : Nat) : Int) + 1) = (((tl3 s).size - 1 + 3 : Nat) : Int) by omega]; omega
 ·rw [if_neg gx0] at h
  by_cases gok : atoiOk (tl3 s) = true
  rotate_left
  ·rw [if_neg gok] at h; exact nomatch h
  rw [if_pos gok] at h
  by_cases gn : atoiN (tl3 s) < 0
  ·rw [if_pos gn] at h; exact nomatch h
  rw [if_neg gn] at h
  by_cases gl : 4 < ((tl3 s).size : Int)
  ·rw [if_pos gl] at h; exact nomatch h
  rw [if_neg gl] at h
  by_cases gc : itoaS (atoiN (tl3 s)) = (tl3 s)
  rotate_left
  ·rw [if_neg gc] at h; exact nomatch h
  rw [if_pos gc] at h
  have hv : (addrR s).2.1 = indexB ⟨#[77, 73, 81]⟩ (byteAt s 1) ∧ (xB s = 1 → (addrR s).1 = 8) ∧ (xB s = 2 → (addrR s).1 = 16) ∧ (xB s = 3 → (addrR s).1 = 32) ∧ (xB s = 4 → (addrR s).1 = 64) := by
   have hx : xB s = 1 ∨ xB s = 2 ∨ xB s = 3 ∨ xB s = 4 := by omega
   rw [addrR, if_neg g4, if_pos g37, if_neg gd, if_neg gx, if_neg gx0, if_pos gok, if_neg gn, if_neg gl, if_pos gc]
   rcases hx with e | e | e | e <;> rw [e] <;> simp
  obtain ⟨c1, c2, c3⟩ := canon gn gc
  refine ⟨s.size, by omega, by omega, by omega, g37, by rw [hv.1]; exact hd, fun i hi hi2 => ?_, fun h4 => ?_, ?_⟩
  rotate_left 2
  ·right
   obtain ⟨-, v1, v2, v3, v4⟩ := hv
   clear hd h g4 gd c1 c2 c3 gok gn gl gc
   refine ⟨rfl, ?_⟩
   rcases hk with hk | hk | hk | hk | hk
   ·exact absurd hk.2 gx0
   ·exact .inl ⟨hk.1, v1 hk.2⟩
   ·exact .inr (.inl ⟨hk.1, v2 hk.2⟩)
   ·exact .inr (.inr (.inl ⟨hk.1, v3 hk.2⟩))
   ·exact .inr (.inr (.inr ⟨hk.1, v4 hk.2⟩))
  ·have := c2 (i - 3) (by omega)
   rw [byteAt_tl3 _ _ (by omega), show i - 3 + 3 = i by omega] at this
   exact this
  ·have := c3 (by omega)
   rw [show (0 : Int) = ((0 : Nat) : Int) from rfl, byteAt_tl3 _ _ (by omega)] at this
   exact this
theorem upS_id {s : ByteArray} (h : ∀ i : Nat, i < s.size → ¬ (97 ≤ byteAt s i ∧ byteAt s i ≤ 122)) : upS s = s := by
 have hl : s.data.toList.length = s.size := by simp
 have : s.data.toList.map upb = s.data.toList := by
  apply List.ext_getElem (by simp)
  intro i h1 h2
  rw [List.getElem_map]
  have := h i (by omega)
  rw [byteAt_nat s i (by omega)] at this
  unfold upb
  rw [if_neg (by omega)]
 unfold upS
 rw [this]
theorem AddrF.low {s : ByteArray} {e : Nat} (h : AddrF s e) (i : Nat) (hi : i < s.size) : ¬ (97 ≤ byteAt s i ∧ byteAt s i ≤ 122) := by
 obtain ⟨h1, h2, h3, h4, h5, h6, h7, h8⟩ := h
 by_cases c : i < 3
 have hc : i = 0 ∨ i = 1 ∨ i = 2 := by omega
 rcases hc with rfl | rfl | rfl
 show ¬ (97 ≤ byteAt s 0 ∧ byteAt s 0 ≤ 122); omega
 show ¬ (97 ≤ byteAt s 1 ∧ byteAt s 1 ≤ 122); omega
 show ¬ (97 ≤ byteAt s 2 ∧ byteAt s 2 ≤ 122); omega
 by_cases d : i < e
 have := h6 i (by omega) d; omega
 have hc : i = e ∨ i = e + 1 := by omega
 rcases hc with rfl | rfl
 omega
 have : ((e + 1 : Nat) : Int) = (e : Int) + 1 := by omega
 rw [this]; omega
theorem rUpper0 (H : AS) (s : ByteArray) (hs : s.size ≤ 281474976710656) (h : ∀ i : Nat, i < s.size → ¬ (97 ≤ byteAt s i ∧ byteAt s i ≤ 122)) : ACalls Tryz.prog 114 [ps s] H fun q H' => q = ps s ∧ H' = H := by
 have := rUpper H s hs; rw [upS_id h] at this; exact this
theorem pre3 (s : ByteArray) (h : 3 ≤ s.size) : (s.extract 0 3).size = 3 := by rw [ByteArray.size_extract]; omega
theorem low3 {s : ByteArray} (h3 : 3 ≤ s.size) (h : ∀ i : Nat, i < s.size → ¬ (97 ≤ byteAt s i ∧ byteAt s i ≤ 122)) : ∀ i : Nat, i < (s.extract 0 3).size → ¬ (97 ≤ byteAt (s.extract 0 3) i ∧ byteAt (s.extract 0 3) i ≤ 122) := fun i hi => by
 rw [pre3 s h3] at hi
 rw [byteAt_pre s 3 i hi h3]
 exact h i (by omega)
theorem cut03 (s : ByteArray) (h : 3 ≤ s.size) : aCutOp Tryz.prog 9 (.val (.string s)) (some (pi 0)) (some (pi 3)) = some (ps (s.extract 0 3)) := by
 have hu : Tryz.prog.underlying 9 = some .string := by kernel_rfl
 simp [aCutOp, cutOk, hu, aBound, acut]
 all_goals omega
theorem rAddress (H : AS) (s : ByteArray) (hs : s.size ≤ 281474976710656) (e : Nat) (h : AddrF s e) : ACalls Tryz.prog 115 [ps s, pi 0] H fun q H' => q = pi s.size ∧ H' = H := by
 refine ACalls_intro Tryz.func115 rfl (by kernel_rfl) (by simp) fun hwf hbel => ?_
 have b4 := h.e4
 have b7 := h.e7
 have bs := h.es
 have k0 := h.b0
 have k1 := h.b1
 have k2 := h.b2
 have kz := h.nz
 have z3 := pre3 s (by omega)
 have p1 := byteAt_pre s 3 1 (by omega) (by omega)
 have p2 := byteAt_pre s 3 2 (by omega) (by omega)
 rw [show ((1 : Nat) : Int) = 1 from rfl] at p1
 rw [show ((2 : Nat) : Int) = 2 from rfl] at p2
 have p3 : 3 ≤ (s.size : Int) := by omega
 have p4 : (if 3 < (s.size : Int) then (3 : Int) else (s.size : Int)) = 3 := by split <;> omega
 have lw := low3 (by omega) h.low
 have c3 := cut03 s (by omega)
 repeat' first
  | (refine T_jr 2 (fun F H' => F 0 = ps s ∧ F 1 = pi 0 ∧ F 5 = ps (s.extract 0 3) ∧ H = H') ?_ ?_)
  | refine T_seq ?_
  | refine T_rgn ?_
  | refine T_cd ?_
  | refine T_sk ?_
  | refine T_rt ?_
  | refine T_block ?_
  | refine T_ex ?_
  | refine Kt_then ?_
  | refine Kt_block ?_
  | refine Kr_then ?_
  | refine Kr_block ?_
  | refine Ke_here ?_
  | refine Ke_then ?_
  | refine Hid.mk ?_
  | (refine Kt_thenK ?_; exact ⟨by simp [*], by simp [*], by simp [*], rfl⟩)
  | refine Kr_thenK ?_
  | (refine Jn.mk ?_; rintro F1 H1 ⟨g0, g1, g5, rfl⟩)
  | (refine callR (rDigit _ _) ?_; rintro _ Hz ⟨rfl, hz⟩; subst Hz)
  | (refine callR (rInner _ _) ?_; rintro _ Hz ⟨rfl, hz⟩; subst Hz)
  | (refine callR (rUpper0 _ _ (by omega) lw) ?_; rintro _ Hz ⟨rfl, hz⟩; subst Hz)
  | refine Gs.mk (fun g => ?_) (fun g => ?_) <;> (try simp only [nm] at g) <;> try (exfalso; omega)
  | refine Gr.mk (fun g => ?_) (fun g => ?_) <;> (try simp only [nm] at g) <;> try (exfalso; omega)
  | (refine Run.of ?_; simp (disch := first | omega | assumption | (simp; done) | fail) [*, idx9, wrap_i64, digB])
 all_goals (try (refine Kx.mk ?_; refine owes_one (.inr rfl) hwf rfl ?_ ?_ ?_ ?_ <;> (try simp (maxDischargeDepth := 20) [*])))
 refine T_lp (fun k F H' => ∃ i : Nat, k = e - i ∧ 3 ≤ i ∧ i ≤ e ∧ F 0 = ps s ∧ F 5 = ps (s.extract 0 3) ∧ F 6 = pi 3 ∧ F 7 = pi i ∧ H' = H) (e - 3) ?_ ?_
 exact ⟨3, by omega, by omega, by omega, by simp [*], by simp [*], by simp [*], by simp [*], rfl⟩
 rintro k F H1 ⟨i, rfl, hi3, hi, g0, g5, g6, g7, rfl⟩
 have hd := h.dig i hi3
 have hq : i = e → s.size = e ∨ byteAt s i = 46 := fun e2 => by subst e2; omega
 have hz : i = e → byteAt s i = byteAt s e := fun e2 => by rw [e2]
 have hz2 : i = e → byteAt s ((i : Int) + 1) = byteAt s ((e : Int) + 1) := fun e2 => by rw [e2]
 repeat' first
  | (refine T_jr 2 (fun F H' => F 0 = ps s ∧ F 1 = pi 0 ∧ F 5 = ps (s.extract 0 3) ∧ H = H') ?_ ?_)
  | refine T_seq ?_
  | refine T_rgn ?_
  | refine T_cd ?_
  | refine T_sk ?_
  | refine T_rt ?_
  | refine T_block ?_
  | refine T_ex ?_
  | refine Kt_then ?_
  | refine Kt_block ?_
  | refine Kr_then ?_
  | refine Kr_block ?_
  | refine Kr_loop ?_
  | refine Ke_here ?_
  | refine Ke_then ?_
  | refine Ke_loop ?_
  | refine Ke_block ?_
  | refine Hid.mk ?_
  | (refine Kt_thenK ?_; exact ⟨by simp [*], by simp [*], by simp [*], rfl⟩)
  | refine Kr_thenK ?_
  | (refine Jn.mk ?_; rintro F1 H1 ⟨g0, g1, g5, rfl⟩)
  | (refine callR (rDigit _ _) ?_; rintro _ Hz ⟨rfl, hz⟩; subst Hz)
  | (refine callR (rInner _ _) ?_; rintro _ Hz ⟨rfl, hz⟩; subst Hz)
  | (refine callR (rUpper0 _ _ (by omega) lw) ?_; rintro _ Hz ⟨rfl, hz⟩; subst Hz)
  | refine Gs.mk (fun g => ?_) (fun g => ?_) <;> (try simp only [nm] at g) <;> try (exfalso; omega)
  | refine Gr.mk (fun g => ?_) (fun g => ?_) <;> (try simp only [nm] at g) <;> try (exfalso; omega)
  | (refine Run.of ?_; simp (disch := first | omega | assumption | (simp; done) | fail) [*, idx9, wrap_i64, digB])
 all_goals (try (refine Kx.mk ?_; refine owes_one (.inr rfl) hwf rfl ?_ ?_ ?_ ?_ <;> (try simp (maxDischargeDepth := 20) [*])))
 all_goals (try (refine Kt_loop ⟨_, ?_, i + 1, rfl, by omega, by omega, by simp [*], by simp [*], by simp [*], by simp [*], rfl⟩ <;> omega))
 all_goals (try omega)
def ruleL (code r n sl cs : Int) : List Int := if code = 1 ∨ code = 12 then [r,0,0,0,0,0,0,0,0] else if code = 2 then [r,r,0,0,0,0,0,0,0] else if code = 3 ∨ code = 4 ∨ code = 7 then [r,3,4096,0,0,1,0,0,0] else if code = 5 ∨ code = 6 ∨ code = 8 then [r,3,4096,r,0,1,0,0,1] else if code = 9 then [r,r,r,14,0,0,0,1,0] else if code = 10 then [r,r,0,16,0,0,0,15,0] else if code = 11 then [r,r,0,19,0,0,0,1,0] else if code = 13 then [r,0,16,255,0,0,0,0,0] else if code = 14 then [r,0,0,0,0,0,0,0,2] else if code = 15 then [r,0,0,0,0,0,0,0,3] else if code = 16 then [0,n,0,0,0,0,0,0,0] else if code = 17 then [r,n,0,0,0,0,0,0,0] else if code = 18 then [0,cs-1,3,4096,0,0,1,0,0] else if code = 19 then [0,10,3,4096,0,1,1,0,0] else if code = 20 then [10,0,0,0,1,0,0,0,0] else if code = 22 ∨ code = 23 then [r,sl,0,0,0,0,0,0,0] else [0,0,0,0,0,0,0,0,0]
def boundOk (o : DOp) (k : Int) : Prop := (k = 0 → o.lo = 0 ∧ o.hi = 0) ∧ (k = 1 → nearB o.lo o.hi = true) ∧ (k = 2 → o.lo ≤ o.hi) ∧ (¬ k = 0 → ¬ k = 1 → ¬ k = 2 → o.lo = 0 ∧ 0 ≤ o.hi ∧ o.hi ≤ 254)
def RuleOk (o : DOp) (l : List Int) : Prop := ∃ a b c d la lb lc ld k, l = [a, b, c, d, la, lb, lc, ld, k] ∧ (la ≤ o.a ∧ o.a ≤ a) ∧ (lb ≤ o.b ∧ o.b ≤ b) ∧ (lc ≤ o.c ∧ o.c ≤ c) ∧ (ld ≤ o.d ∧ o.d ≤ d) ∧ boundOk o k
theorem near_le {n m : Int} (h : nearB n m = true) : n ≤ m := by
 unfold nearB at h; split at h
 assumption
 cases h
theorem numB (n m : Int) : numberB n m = decide (0 ≤ n ∧ n ≤ m) := by
 unfold numberB; repeat' split
 all_goals (symm; simp; omega)
theorem rIsAddr (H : AS) (s : ByteArray) (hs : s.size ≤ 281474976710656) (h : (addrR s).2.2 = true) : ACalls Tryz.prog 93 [ps s] H fun q H' => q = .tuple [pi (addrR s).1, pi (addrR s).2.1, pb true] ∧ H' = H := by
 refine ACalls_intro Tryz.func93 rfl (by kernel_rfl) (by simp) fun hwf hbel => ?_
 obtain ⟨e, h⟩ := addr_facts h
 have b4 := h.e4
 have bs := h.es
 have k0 := h.b0
 have k1 := h.b1
 have k2 := h.b2
 have hne : ¬ s = ⟨#[]⟩ := fun e2 => by
  have : s.size = 0 := by rw [e2]; rfl
  omega
 repeat' first
  | refine T_seq ?_
  | refine T_rgn ?_
  | refine T_cd ?_
  | refine T_sk ?_
  | refine T_rt ?_
  | refine T_block ?_
  | refine T_ex ?_
  | refine Kt_then ?_
  | refine Kt_block ?_
  | refine Kr_then ?_
  | refine Kr_block ?_
  | refine Ke_here ?_
  | refine Ke_then ?_
  | refine Hid.mk ?_
  | (refine callR (rAddress _ _ hs _ h) ?_; rintro _ Hz ⟨rfl, hz⟩; subst Hz)
  | (refine callR (rUpper0 _ _ hs h.low) ?_; rintro _ Hz ⟨rfl, hz⟩; subst Hz)
  | refine Gs.mk (fun g => ?_) (fun g => ?_) <;> (try simp only [nm] at g) <;> try (exfalso; omega)
  | refine Gr.mk (fun g => ?_) (fun g => ?_) <;> (try simp only [nm] at g) <;> try (exfalso; omega)
  | (refine Run.of ?_; simp (maxSteps := 1000000) (disch := first | omega | assumption | (simp; done) | fail) [*, idx9, beq_bytes])
 all_goals (refine Kx.mk ?_; refine owes_vals (qs := [pi (addrR s).1, pi (addrR s).2.1, pb true]) (.inr rfl) hwf rfl rfl ?_ ?_ ?_ ?_)
 all_goals (try simp (maxDischargeDepth := 20) [*])
 all_goals omega
theorem rBounded (H : AS) (o : DOp) (k : Int) (h : boundOk o k) (h1 : -(2 ^ 63) ≤ o.lo ∧ o.lo < 2 ^ 63) (h2 : -(2 ^ 63) ≤ o.hi ∧ o.hi < 2 ^ 63) : ACalls Tryz.prog 97 [.agg o.row, pi k] H fun q H' => q = pb true ∧ H' = H := by
 refine ACalls_intro Tryz.func97 rfl (by kernel_rfl) (by simp) fun hwf hbel => ?_
 obtain ⟨f0, f1, f2, f3⟩ := h
 repeat' first
  | refine T_seq ?_
  | refine T_rgn ?_
  | refine T_cd ?_
  | refine T_sk ?_
  | refine T_rt ?_
  | refine T_block ?_
  | refine T_ex ?_
  | refine Kt_then ?_
  | refine Kt_block ?_
  | refine Kr_then ?_
  | refine Kr_block ?_
  | refine Ke_here ?_
  | refine Ke_then ?_
  | refine Hid.mk ?_
  | (refine callR (rNear _ _ _ h1 h2 (f1 (by assumption))) ?_; rintro _ Hz ⟨rfl, hz⟩; subst Hz)
  | (refine callR (rIn _ _ _) ?_; rintro _ Hz ⟨rfl, hz⟩; subst Hz)
  | refine Gs.mk (fun g => ?_) (fun g => ?_) <;> (try simp only [nm] at g)
  | refine Gr.mk (fun g => ?_) (fun g => ?_) <;> (try simp only [nm] at g)
  | (refine Run.of ?_; simp (maxSteps := 1000000) [*, DOp.row, numB])
 all_goals (refine Kx.mk ?_; refine owes_one (.inr rfl) hwf rfl ?_ ?_ ?_ ?_)
 all_goals (try simp (maxDischargeDepth := 20) [numB, *])
 all_goals first | omega | (have := near_le (f1 (by assumption)); omega) | (have := f3 (by assumption) (by assumption) (by assumption); simp_all; done) | (have := f0 (by assumption); simp_all; done) | trace_state
theorem rOf (H : AS) (c : Nat) (f : DFlat) (code cs : Int) (hr1 : 0 ≤ f.regs ∧ f.regs ≤ 8) (hs1 : 0 ≤ f.slots ∧ f.slots ≤ 1024) (hn : f.ops.length < 2 ^ 62) (hcs : 0 ≤ cs ∧ cs < 2 ^ 62) : ACalls Tryz.prog 96 [pi code, .agg (f.row c), pi cs] H fun q H' => q = .agg ((ruleL code (f.regs - 1) (f.ops.length - 1) (f.slots - 1) cs).map pi) ∧ H' = H := by
 refine ACalls_intro Tryz.func96 rfl (by kernel_rfl) (by simp) fun hwf hbel => ?_
 repeat' first
  | refine T_seq ?_
  | refine T_rgn ?_
  | refine T_cd ?_
  | refine T_sk ?_
  | refine T_rt ?_
  | refine T_block ?_
  | refine T_ex ?_
  | refine Kt_then ?_
  | refine Kt_block ?_
  | refine Kr_then ?_
  | refine Kr_block ?_
  | refine Ke_here ?_
  | refine Ke_then ?_
  | refine Hid.mk ?_
  | refine T_dr (id := 33) (fun i => i = H.next) [] (.free 0 (.free 1 (.free 2 (.free 3 (.free 4 (.free 5 (.sole 6 (.free 7 (.sole 8 .done))))))))) mix ?_
  | refine T_dr (id := 42) (fun i => i = H.next) [] (.free 0 (.free 1 (.free 2 (.free 3 (.free 4 (.sole 5 (.free 6 (.sole 7 .done)))))))) mix ?_
  | refine Gs.mk (fun g => ?_) (fun g => ?_) <;> (try simp only [nm] at g)
  | refine Gr.mk (fun g => ?_) (fun g => ?_) <;> (try simp only [nm] at g)
  | (refine Run.of ?_; simp (maxSteps := 1000000) (disch := first | omega | assumption | (simp; done) | fail) [*, DFlat.row, wrap_i64, Nat.add_assoc])
 all_goals (refine Kx.mk ?_; refine owes_one (r := .agg ((ruleL code (f.regs - 1) (f.ops.length - 1) (f.slots - 1) cs).map pi)) (.inr rfl) hwf (by rw [show Tryz.f96.results.toList = [.cell 6 142] from rfl]; simp [aResults, ruleL, *]) rfl ?_ ?_ ?_)
 all_goals (try simp (maxDischargeDepth := 20) [*])
 all_goals trace_state
theorem rOf9 (H : AS) (c : Nat) (f : DFlat) (code cs : Int) (hr1 : 0 ≤ f.regs ∧ f.regs ≤ 8) (hs1 : 0 ≤ f.slots ∧ f.slots ≤ 1024) (hn : f.ops.length < 2 ^ 62) (hcs : 0 ≤ cs ∧ cs < 2 ^ 62) {x1 x2 x3 x4 x5 x6 x7 x8 x9 : Int} (h : ruleL code (f.regs - 1) (f.ops.length - 1) (f.slots - 1) cs = [x1, x2, x3, x4, x5, x6, x7, x8, x9]) :
  ACalls Tryz.prog 96 [pi code, .agg (f.row c), pi cs] H fun q H' => q = .agg [pi x1, pi x2, pi x3, pi x4, pi x5, pi x6, pi x7, pi x8, pi x9] ∧ H' = H := by
 have := rOf H c f code cs hr1 hs1 hn hcs
 rw [h] at this; exact this
theorem eqv_iff {k b k' b' : Int} {t t' : ByteArray} : eqv k b t k' b' t' = true ↔ k = k' ∧ b = b' ∧ t = t' := by
 unfold eqv; simp [and_assoc]
theorem rMay0x (H : AS)  : ACalls Tryz.prog 117 [.val (.int .u8 20), .val (.int .u64 0)] H fun q H' => q = pb false ∧ H' = H := by
 refine ACalls_intro Tryz.func117 rfl (by kernel_rfl) (by simp) fun hwf hbel => ?_
 repeat' first
  | refine T_seq ?_
  | refine T_rgn ?_
  | refine T_cd ?_
  | refine T_sk ?_
  | refine T_rt ?_
  | refine T_block ?_
  | refine T_ex ?_
  | refine Kt_then ?_
  | refine Kt_block ?_
  | refine Kr_then ?_
  | refine Kr_block ?_
  | refine Ke_here ?_
  | refine Ke_then ?_
  | refine Hid.mk ?_
  | (refine callR (rWidth _ _) ?_; rintro _ Hz ⟨rfl, hz⟩; subst Hz)
  | (refine callR (rSigned _ _) ?_; rintro _ Hz ⟨rfl, hz⟩; subst Hz)
  | refine Gs.mk (fun g => ?_) (fun g => ?_) <;> (try simp only [nm] at g)
  | refine Gr.mk (fun g => ?_) (fun g => ?_) <;> (try simp only [nm] at g)
  | (refine Run.of ?_; simp (maxSteps := 1000000) [*, signedB, widthR, bitsN])
 all_goals (refine Kx.mk ?_; refine owes_one (.inr rfl) hwf rfl ?_ ?_ ?_ ?_)
 all_goals (try simp (maxDischargeDepth := 20) [*])
 all_goals trace_state
theorem rMayRef (H : AS)  : ACalls Tryz.prog 98 [.agg [.val (.int .u8 20), .val (.int .u64 0), ps ⟨#[]⟩]] H fun q H' => q = pb false ∧ H' = H := by
 refine ACalls_intro Tryz.func98 rfl (by kernel_rfl) (by simp) fun hwf hbel => ?_
 repeat' first
  | refine T_seq ?_
  | refine T_rgn ?_
  | refine T_cd ?_
  | refine T_sk ?_
  | refine T_rt ?_
  | refine T_block ?_
  | refine T_ex ?_
  | refine Kt_then ?_
  | refine Kt_block ?_
  | refine Kr_then ?_
  | refine Kr_block ?_
  | refine Ke_here ?_
  | refine Ke_then ?_
  | refine Hid.mk ?_
  | (refine callR (rMay0x _) ?_; rintro _ Hz ⟨rfl, hz⟩; subst Hz)
  | refine Gs.mk (fun g => ?_) (fun g => ?_) <;> (try simp only [nm] at g)
  | refine Gr.mk (fun g => ?_) (fun g => ?_) <;> (try simp only [nm] at g)
  | (refine Run.of ?_; simp (maxSteps := 1000000) [*, beq_bytes])
 all_goals (refine Kx.mk ?_; refine owes_one (.inr rfl) hwf rfl ?_ ?_ ?_ ?_)
 all_goals (try simp (maxDischargeDepth := 20) [*])
 all_goals trace_state
theorem rMay2 (H : AS) (v : DVal) (hb : 0 ≤ v.bits ∧ v.bits < 2 ^ 64) (h : mayV v = true ∨ eqv v.kind v.bits v.text 20 0 ⟨#[]⟩ = true) : ACalls Tryz.prog 98 [.agg v.row] H fun q H' => q = pb (mayV v) ∧ H' = H := by
 rcases h with h | h
 rw [h]; exact rMay H v hb h
 obtain ⟨h1, h2, h3⟩ := eqv_iff.1 h
 have := rMayRef H
 rw [show mayV v = false by simp [mayV, h1, h2, h3, knownB]]
 simp only [DVal.row, h1, h2, h3]
 exact this
theorem rInstr (H : AS) (c : Nat) (f : DFlat) (o : DOp) (cs : Int) (hr1 : 0 ≤ f.regs ∧ f.regs ≤ 8) (hs1 : 0 ≤ f.slots ∧ f.slots ≤ 1024) (hn : f.ops.length < 2 ^ 62) (hcs : 0 ≤ cs ∧ cs < 2 ^ 62) (hb : 0 ≤ o.value.bits ∧ o.value.bits < 2 ^ 64) (hl : -(2 ^ 63) ≤ o.lo ∧ o.lo < 2 ^ 63) (hh : -(2 ^ 63) ≤ o.hi ∧ o.hi < 2 ^ 63) (h1 : 1 ≤ o.code ∧ o.code ≤ 23) (h : RuleOk o (ruleL o.code (f.regs - 1) (f.ops.length - 1) (f.slots - 1) cs)) (hv : o.code = 1 → mayV o.value = true ∨ eqv o.value.kind o.value.bits o.value.text 20 0 ⟨#[]⟩ = true) (hv2 : ¬ o.code = 1 → eqv o.value.kind o.value.bits o.value.text 0 0 ⟨#[]⟩ = true) : ACalls Tryz.prog 68 [.agg o.row, .agg (f.row c), pi cs] H fun q H' => q = pb true ∧ H' = H := by
 refine ACalls_intro Tryz.func68 rfl (by kernel_rfl) (by simp) fun hwf hbel => ?_
 obtain ⟨x1, x2, x3, x4, x5, x6, x7, x8, x9, hr, ha, hbb, hcc, hd, hbd⟩ := h
 repeat' first
  | refine T_seq ?_
  | refine T_rgn ?_
  | refine T_cd ?_
  | refine T_sk ?_
  | refine T_rt ?_
  | refine T_block ?_
  | refine T_ex ?_
  | refine Kt_then ?_
  | refine Kt_block ?_
  | refine Kr_then ?_
  | refine Kr_block ?_
  | refine Ke_here ?_
  | refine Ke_then ?_
  | refine Hid.mk ?_
  | (refine callR (rOf9 _ c f o.code cs hr1 hs1 hn hcs hr) ?_; rintro _ Hz ⟨rfl, hz⟩; subst Hz)
  | (refine callR (rBounded _ o x9 hbd hl hh) ?_; rintro _ Hz ⟨rfl, hz⟩; subst Hz)
  | (refine callR (rMay2 _ o.value hb (hv (by assumption))) ?_; rintro _ Hz ⟨rfl, hz⟩; subst Hz)
  | refine Gs.mk (fun g => ?_) (fun g => ?_) <;> (try simp only [nm] at g) <;> try (exfalso; omega)
  | refine Gr.mk (fun g => ?_) (fun g => ?_) <;> (try simp only [nm] at g) <;> try (exfalso; omega)
  | (refine Run.of ?_; simp (maxSteps := 1000000) [*, DOp.row, DFlat.row, eq42, Nat.add_assoc])
 all_goals (refine Kx.mk ?_; refine owes_one (.inr rfl) hwf rfl ?_ ?_ ?_ ?_)
 all_goals (try simp (maxDischargeDepth := 20) [*])
 all_goals first | (rcases hv (by assumption) with hh | hh <;> simp_all; done) | (have := hv2 (by assumption); simp_all; done) | trace_state
theorem mayO_rule {f : DFlat} {cs : Int} {o : DOp} (h : mayO ⟨f, cs⟩ o = true) : (1 ≤ o.code ∧ o.code ≤ 23) ∧ RuleOk o (ruleL o.code (f.regs - 1) (f.ops.length - 1) (f.slots - 1) cs) ∧ (o.code = 1 → mayV o.value = true ∨ eqv o.value.kind o.value.bits o.value.text 20 0 ⟨#[]⟩ = true) ∧ (¬ o.code = 1 → eqv o.value.kind o.value.bits o.value.text 0 0 ⟨#[]⟩ = true) := by
 by_cases hc : 1 ≤ o.code ∧ o.code ≤ 23
 ·have hc2 : o.code = 1 ∨ o.code = 2 ∨ o.code = 3 ∨ o.code = 4 ∨ o.code = 5 ∨ o.code = 6 ∨ o.code = 7 ∨ o.code = 8 ∨ o.code = 9 ∨ o.code = 10 ∨ o.code = 11 ∨ o.code = 12 ∨ o.code = 13 ∨ o.code = 14 ∨ o.code = 15 ∨ o.code = 16 ∨ o.code = 17 ∨ o.code = 18 ∨ o.code = 19 ∨ o.code = 20 ∨ o.code = 21 ∨ o.code = 22 ∨ o.code = 23 := by omega
  refine ⟨hc, ?_⟩
  rcases hc2 with e | e | e | e | e | e | e | e | e | e | e | e | e | e | e | e | e | e | e | e | e | e | e
  all_goals (simp [mayO, flowB, zeroB, regB, slotB, placeB, areaB, numberB, e, eqv_iff] at h ⊢)
  all_goals (simp [RuleOk, ruleL, boundOk])
  all_goals (try split at h)
  all_goals refine ⟨⟨_, _, _, _, _, _, _, _, _, ⟨rfl, rfl, rfl, rfl, rfl, rfl, rfl, rfl, rfl⟩, ?_, ?_, ?_, ?_, ?_, ?_, ?_, ?_⟩, ?_⟩
  all_goals first | omega | (simp; omega) | (simp; done) | (simp_all; done) | (simp_all; omega)
 exfalso
 have h1 : ¬ o.code = 1 := by omega
 have h2 : ¬ o.code = 2 := by omega
 have h3 : ¬ o.code = 3 := by omega
 have h4 : ¬ o.code = 4 := by omega
 have h5 : ¬ o.code = 5 := by omega
 have h6 : ¬ o.code = 6 := by omega
 have h7 : ¬ o.code = 7 := by omega
 have h8 : ¬ o.code = 8 := by omega
 have h9 : ¬ o.code = 9 := by omega
 have h10 : ¬ o.code = 10 := by omega
 have h11 : ¬ o.code = 11 := by omega
 have h12 : ¬ o.code = 12 := by omega
 have h13 : ¬ o.code = 13 := by omega
 have h14 : ¬ o.code = 14 := by omega
 have h15 : ¬ o.code = 15 := by omega
 have h16 : ¬ o.code = 16 := by omega
 have h17 : ¬ o.code = 17 := by omega
 have h18 : ¬ o.code = 18 := by omega
 have h19 : ¬ o.code = 19 := by omega
 have h20 : ¬ o.code = 20 := by omega
 have h21 : ¬ o.code = 21 := by omega
 have h22 : ¬ o.code = 22 := by omega
 have h23 : ¬ o.code = 23 := by omega
 simp [mayO, flowB, *] at h
theorem headB_facts {f : DFlat} {n : Int} (hn : 0 ≤ n ∧ n < 2 ^ 62) (h : headB f n = true) : (1 ≤ f.what ∧ f.what ≤ 3) ∧ (0 ≤ f.cells ∧ f.cells ≤ 4096) ∧ (0 ≤ f.regs ∧ f.regs ≤ 8) ∧ (0 ≤ f.slots ∧ f.slots ≤ 1024) ∧ 0 < f.ops.length ∧ (f.base = -1 ∨ f.what = 1 ∧ 0 ≤ f.base ∧ f.base ≤ n - f.cells) ∧ ((nth f.ops ((f.ops.length : Int) - 1)).code = 16 ∨ (nth f.ops ((f.ops.length : Int) - 1)).code = 20 ∨ (nth f.ops ((f.ops.length : Int) - 1)).code = 21) ∧ ∀ i : Nat, i < f.loops.length → (0 ≤ (nth f.loops i).head ∧ (nth f.loops i).head ≤ (nth f.loops i).stop ∧ (nth f.loops i).stop ≤ f.ops.length) ∧ 0 ≤ (nth f.loops i).times ∧ (nth f.loops i).times ≤ 65536 := by
 have hl : f.loops.all (headL f) = true → ∀ i : Nat, i < f.loops.length → (0 ≤ (nth f.loops i).head ∧ (nth f.loops i).head ≤ (nth f.loops i).stop ∧ (nth f.loops i).stop ≤ f.ops.length) ∧ 0 ≤ (nth f.loops i).times ∧ (nth f.loops i).times ≤ 65536 := by
  intro ha i hi
  have := List.all_eq_true.1 ha _ (nth_mem hi)
  simp [headL, numberB] at this
  omega
 have hp : ¬ f.ops = [] → 0 < f.ops.length := fun e => List.length_pos_iff.2 e
 by_cases a1 : f.what < 1
 simp [headB, a1] at h
 by_cases a2 : 3 < f.what
 simp [headB, a1, a2] at h
 by_cases a3 : 0 ≤ f.cells ∧ f.cells ≤ 4096
 rotate_left
 simp [headB, a1, a2, numberB] at h; omega
 by_cases a4 : 0 ≤ f.regs ∧ f.regs ≤ 8
 rotate_left
 simp [headB, a1, a2, a3, numberB] at h; omega
 by_cases a5 : 0 ≤ f.slots ∧ f.slots ≤ 1024
 rotate_left
 simp [headB, a1, a2, a3, a4, numberB] at h; omega
 by_cases a6 : f.ops = []
 simp [headB, a1, a2, a3, a4, a5, a6, numberB] at h
 cases hq : f.loops.all (headL f) with
 | false => simp [headB, hq] at h
 | true =>
 have hl := hl hq
 obtain ⟨o, ho⟩ : ∃ o, nth f.ops ((f.ops.length : Int) - 1) = o := ⟨_, rfl⟩
 rw [ho]
 by_cases a9 : o.code = 16 ∨ o.code = 20 ∨ o.code = 21
 rotate_left
 have b1 : ¬ o.code = 16 := fun e => a9 (.inl e)
 have b2 : ¬ o.code = 20 := fun e => a9 (.inr (.inl e))
 have b3 : ¬ o.code = 21 := fun e => a9 (.inr (.inr e))
 by_cases a7 : f.base = -1 <;> simp [headB, a1, a2, a3, a4, a5, a6, a7, ho, b1, b2, b3, numberB] at h
 by_cases a7 : f.base = -1
 exact ⟨by omega, a3, a4, a5, hp a6, .inl a7, a9, hl⟩
 by_cases a8 : f.what = 1
 refine ⟨by omega, a3, a4, a5, hp a6, .inr ⟨a8, ?_⟩, a9, hl⟩
 by_cases c1 : f.base < 0
 simp [headB, a1, a2, a3, a4, a5, a6, a7, a8, c1, numberB] at h
 by_cases c2 : IntKind.i64.wrap (n - f.cells) < f.base
 simp [headB, a1, a2, a3, a4, a5, a6, a7, a8, c1, c2, numberB] at h
 rw [wi64] at c2; omega
 simp [headB, a1, a2, a3, a4, a5, a6, a7, a8, numberB] at h
theorem rCode (H : AS) (c : Nat) (m : DImage) (i : Nat) (hi : i < m.codes.length) (hmc : m.cells.length < 2 ^ 62) (hmd : m.codes.length < 2 ^ 62) (hfo : (nth m.codes i).ops.length < 2 ^ 62) (hfl : (nth m.codes i).loops.length < 2 ^ 62) (h : headB (nth m.codes i) m.cells.length = true) : ACalls Tryz.prog 67 [.agg (m.row c), pi i] H fun q H' => q = pb true ∧ H' = H := by
 refine ACalls_intro Tryz.func67 rfl (by kernel_rfl) (by simp) fun hwf hbel => ?_
 obtain ⟨f1, f2, f3, f4, f5, f6, f7, f8⟩ := headB_facts (by omega) h
 have hne : ¬ (nth m.codes (i : Int)).ops = [] := List.length_pos_iff.1 f5
 repeat' first
  | (refine T_jr 5 (fun F H' => F 5 = .ptr (H.next + 1) 1 0 0 ∧ F 6 = pi (nth m.codes i).ops.length ∧ H'.box (H.next + 1) = some [DFlat.row c (nth m.codes i)] ∧ H.next + 2 ≤ H'.next ∧ H.Ext H') ?_ ?_)
  | (refine T_jr 8 (fun F H' => F 5 = .ptr (H.next + 1) 1 0 0 ∧ F 6 = pi (nth m.codes i).ops.length ∧ H'.box (H.next + 1) = some [DFlat.row c (nth m.codes i)] ∧ H.next + 2 ≤ H'.next ∧ H.Ext H') ?_ ?_)
  | refine T_seq ?_
  | refine T_rgn ?_
  | refine T_cd ?_
  | refine T_sk ?_
  | refine T_rt ?_
  | refine T_block ?_
  | refine T_ex ?_
  | refine Kt_then ?_
  | refine Kt_block ?_
  | refine Kr_then ?_
  | refine Kr_block ?_
  | refine Ke_here ?_
  | refine Ke_then ?_
  | refine Hid.mk ?_
  | (refine Kt_thenK ?_; exact ⟨by simp [*], by simp [*], by simp [*, DFlat.row], by simp [*], (by repeat (first | exact AS.Ext.refl _ | assumption | refine AS.Ext.bump ?_ | refine AS.Ext.setBox (by first | omega | (simp; omega) | (simp; done)) ?_))⟩)
  | refine Kr_thenK ?_
  | (refine Jn.mk ?_; rintro F1 H1 ⟨g5, g6, hb, hnx, hx⟩)
  | (refine Kt_thenK ?_; exact ⟨by simp [*], by simp [*], by simp [*, DFlat.row], by simp [*], (by repeat (first | exact AS.Ext.refl _ | assumption | refine AS.Ext.bump ?_ | refine AS.Ext.setBox (by first | omega | (simp; omega) | (simp; done)) ?_))⟩)
  | refine Kr_thenK ?_
  | (refine Jn.mk ?_; rintro F1 H1 ⟨g5, g6, hb, hnx, hx⟩)
  | (refine callR (rIn _ _ _) ?_; rintro _ Hz ⟨rfl, hz⟩; subst Hz)
  | refine Gs.mk (fun g => ?_) (fun g => ?_) <;> (try simp only [nm] at g) <;> try (exfalso; omega)
  | refine Gr.mk (fun g => ?_) (fun g => ?_) <;> (try simp only [nm] at g) <;> try (exfalso; omega)
  | (refine Run.of ?_; simp (maxSteps := 1000000) (disch := first | omega | assumption | (simp; done) | fail) [*, DImage.row, DFlat.row, DLoop.row, numB, idx23, idx45, idx46, wrap_i64])
 all_goals (try (refine Kx.mk ?_; refine owes_one (.inr rfl) hwf rfl ?_ ?_ ?_ ?_ <;> (try simp (maxDischargeDepth := 20) [*])))
 refine T_lp (fun k F H' => ∃ j : Nat, k = (nth m.codes i).loops.length - j ∧ j ≤ (nth m.codes i).loops.length ∧ F 5 = .ptr (H.next + 1) 1 0 0 ∧ F 6 = pi (nth m.codes i).ops.length ∧ F 8 = pi j ∧ H'.box (H.next + 1) = some [DFlat.row c (nth m.codes i)] ∧ H.next + 2 ≤ H'.next ∧ H.Ext H') ((nth m.codes i).loops.length) ?_ ?_
 exact ⟨0, by omega, by omega, by simp [*], by simp [*], by simp [*], by simp [*], by simp [*], by simp [*]⟩
 rintro k F H1 ⟨j, rfl, hj, g5, g6, g8, hb, hnx, hx⟩
 have nb1 : ¬ H.next + 1 = H1.next := by omega
 have nb2 : H.next ≤ H1.next := by omega
 have hb2 := fun hj2 => f8 j hj2
 repeat' first
  | (refine T_jr 5 (fun F H' => F 5 = .ptr (H.next + 1) 1 0 0 ∧ F 6 = pi (nth m.codes i).ops.length ∧ H'.box (H.next + 1) = some [DFlat.row c (nth m.codes i)] ∧ H.next + 2 ≤ H'.next ∧ H.Ext H') ?_ ?_)
  | (refine T_jr 8 (fun F H' => F 5 = .ptr (H.next + 1) 1 0 0 ∧ F 6 = pi (nth m.codes i).ops.length ∧ H'.box (H.next + 1) = some [DFlat.row c (nth m.codes i)] ∧ H.next + 2 ≤ H'.next ∧ H.Ext H') ?_ ?_)
  | refine T_seq ?_
  | refine T_rgn ?_
  | refine T_cd ?_
  | refine T_sk ?_
  | refine T_rt ?_
  | refine T_block ?_
  | refine T_ex ?_
  | refine Kt_then ?_
  | refine Kt_block ?_
  | refine Kr_then ?_
  | refine Kr_block ?_
  | refine Kr_loop ?_
  | refine Ke_here ?_
  | refine Ke_then ?_
  | refine Ke_loop ?_
  | refine Ke_block ?_
  | refine Hid.mk ?_
  | (refine Kt_thenK ?_; exact ⟨by simp [*], by simp [*], by simp [*, DFlat.row], by simp [*], (by repeat (first | exact AS.Ext.refl _ | assumption | refine AS.Ext.bump ?_ | refine AS.Ext.setBox (by first | omega | (simp; omega) | (simp; done)) ?_))⟩)
  | refine Kr_thenK ?_
  | (refine Jn.mk ?_; rintro F1 H1 ⟨g5, g6, hb, hnx, hx⟩)
  | (refine Kt_thenK ?_; exact ⟨by simp [*], by simp [*], by simp [*, DFlat.row], by simp [*], (by repeat (first | exact AS.Ext.refl _ | assumption | refine AS.Ext.bump ?_ | refine AS.Ext.setBox (by first | omega | (simp; omega) | (simp; done)) ?_))⟩)
  | refine Kr_thenK ?_
  | (refine Jn.mk ?_; rintro F1 H1 ⟨g5, g6, hb, hnx, hx⟩)
  | (refine callR (rIn _ _ _) ?_; rintro _ Hz ⟨rfl, hz⟩; subst Hz)
  | refine Gs.mk (fun g => ?_) (fun g => ?_) <;> (try simp only [nm] at g) <;> try (exfalso; omega)
  | refine Gr.mk (fun g => ?_) (fun g => ?_) <;> (try simp only [nm] at g) <;> try (exfalso; omega)
  | (refine Run.of ?_; simp (maxSteps := 1000000) (disch := first | omega | assumption | (simp; done) | fail) [*, DImage.row, DFlat.row, DLoop.row, numB, idx23, idx45, idx46, wrap_i64])
 all_goals (try (refine Kx.mk ?_; refine owes_one (.inr rfl) hwf rfl ?_ ?_ ?_ ?_ <;> (try simp (maxDischargeDepth := 20) [*])))
 all_goals (try (refine Kt_loop ⟨_, ?_, j + 1, rfl, by omega, by simp [*], by simp [*], by simp [*], by simp [*], by simp; omega, (by repeat (first | exact AS.Ext.refl _ | assumption | refine AS.Ext.bump ?_ | refine AS.Ext.setBox (by first | omega | (simp; omega) | (simp; done)) ?_))⟩ <;> omega))
 all_goals trace_state
end
section
attribute [local simp ↓] wanted_at hbind_some
attribute [local simp] Gs_true Gs_false gcond_Gr Gr_true Gr_false abox frame0 int_beq int_bne aload astore partOf Keeps Same splice aUn aFieldAddr aField aBin aBinV aConvert aExtract aLen aBuild aBuild.go aalloc AS.Ext.refl AS.Ext.bump AS.Ext.setBox
theorem jobB_facts {m : DImage} {j : DJob} (hmc : m.cells.length < 2 ^ 62) (hmd : m.codes.length < 2 ^ 62) (h : jobB m j = true) : 0 ≤ j.interval ∧ (-1 ≤ j.single ∧ j.single < m.cells.length) ∧ (0 ≤ j.single → (nth m.cells j.single).kind = 1) ∧ (0 ≤ j.priority ∧ j.priority ≤ 65535) ∧ (0 ≤ j.bound ∧ j.bound ≤ 1048576) ∧ j.codes.length = j.bases.length ∧ j.bases.length ≤ 32 ∧ ∀ i : Nat, i < j.codes.length → (0 ≤ nth j.codes i ∧ nth j.codes i < m.codes.length) ∧ (nth m.codes (nth j.codes i)).what = 3 ∧ 0 ≤ nth j.bases i ∧ nth j.bases i ≤ IntKind.i64.wrap (m.cells.length - (nth m.codes (nth j.codes i)).cells) := by
 by_cases a1 : j.interval < 0
 simp [jobB, a1] at h
 by_cases a2 : j.single < -1
 simp [jobB, a1, a2] at h
 by_cases a3 : (m.cells.length : Int) ≤ j.single
 simp [jobB, a1, a2, a3] at h
 have a9 : 0 ≤ j.single → (nth m.cells j.single).kind = 1 := by
  intro h0
  by_cases a9 : (nth m.cells j.single).kind = 1
  ·exact a9
  ·simp [jobB, a1, a2, a3, h0, a9] at h
 by_cases a4 : 0 ≤ j.priority ∧ j.priority ≤ 65535
 rotate_left
 by_cases a0 : 0 ≤ j.single <;> simp [a0, a9, jobB, a1, a2, a3, numberB] at h <;> omega
 by_cases a5 : 0 ≤ j.bound ∧ j.bound ≤ 1048576
 rotate_left
 by_cases a0 : 0 ≤ j.single <;> simp [a0, a9, jobB, a1, a2, a3, a4, numberB] at h <;> omega
 by_cases a6 : j.codes.length = j.bases.length
 rotate_left
 by_cases a0 : 0 ≤ j.single <;> simp [a0, a9, jobB, a1, a2, a3, a4, a5, a6, numberB] at h
 by_cases a7 : 32 < (j.bases.length : Int)
 by_cases a0 : 0 ≤ j.single <;> simp [a0, a9, jobB, a1, a2, a3, a4, a5, a6, numberB] at h <;> omega
 cases a8 : (List.range j.codes.length).all (jobL m j) with
 | false => simp only [jobB, a8] at h; simp at h
 | true =>
 have hl : ∀ i : Nat, i < j.codes.length → (0 ≤ nth j.codes i ∧ nth j.codes i < m.codes.length) ∧ (nth m.codes (nth j.codes i)).what = 3 ∧ 0 ≤ nth j.bases i ∧ nth j.bases i ≤ IntKind.i64.wrap (m.cells.length - (nth m.codes (nth j.codes i)).cells) := by
  intro i hi
  have := List.all_eq_true.1 a8 i (List.mem_range.2 hi)
  simp [jobL] at this
  omega
 exact ⟨by omega, by omega, a9, a4, a5, a6, by omega, hl⟩
theorem rJob (H : AS) (c : Nat) (m : DImage) (i : Nat) (hi : i < m.jobs.length) (hmc : m.cells.length < 2 ^ 62) (hmd : m.codes.length < 2 ^ 62) (hfc : ∀ f ∈ m.codes, 0 ≤ f.cells ∧ f.cells ≤ 4096) (j : DJob) (hj : nth m.jobs i = j) (h : jobB m j = true) : ACalls Tryz.prog 69 [.agg (m.row c), pi i] H fun q H' => q = pb true ∧ H' = H := by
 refine ACalls_intro Tryz.func69 rfl (by kernel_rfl) (by simp) fun hwf hbel => ?_
 obtain ⟨f1, f2, f3, f4, f5, f6, f7, f8⟩ := jobB_facts hmc hmd h
 have e1 : ¬ (j.codes.length : Int) ≥ 2 ^ 62 := by omega
 repeat' first
  | (refine T_jr 4 (fun F H' => F 2 = .ptr H.next 1 0 0 ∧ F 5 = .ptr (H.next + 1) 1 0 0 ∧ H'.box H.next = some [DImage.row c m] ∧ H'.box (H.next + 1) = some [DJob.row c j] ∧ H.next + 2 ≤ H'.next ∧ H.Ext H') ?_ ?_)
  | refine T_seq ?_
  | refine T_rgn ?_
  | refine T_cd ?_
  | refine T_sk ?_
  | refine T_rt ?_
  | refine T_block ?_
  | refine T_ex ?_
  | refine Kt_then ?_
  | refine Kt_block ?_
  | refine Kr_then ?_
  | refine Kr_block ?_
  | refine Ke_here ?_
  | refine Ke_then ?_
  | refine Hid.mk ?_
  | (refine Kt_thenK ?_; exact ⟨by simp [*], by simp [*], by simp [*, DImage.row], by simp [*, DJob.row], by simp [*], (by repeat (first | exact AS.Ext.refl _ | assumption | refine AS.Ext.bump ?_ | refine AS.Ext.setBox (by first | omega | (simp; omega) | (simp; done)) ?_))⟩)
  | refine Kr_thenK ?_
  | (refine Jn.mk ?_; rintro F1 H1 ⟨g2, g5, hb0, hb, hnx, hx⟩)
  | refine T_dr (id := 11) (fun _ => True) [] (.free 0 (.free 1 (.free 2 (.free 3 (.free 4 (.free 5 (.free 6 (.free 7 (.free 8 (.free 9 (.free 10 .done))))))))))) mix ?_
  | refine T_dr (id := 13) (fun i => i = H.next ∨ i = H.next + 1) [] (.free 0 (.free 1 (.free 2 (.free 3 (.free 4 (.free 5 (.free 6 (.free 7 (.free 8 (.sole 9 (.sole 10 .done))))))))))) mix ?_
  | refine T_dr (id := 14) (fun _ => True) [] (.free 0 (.free 1 (.free 2 (.free 3 (.free 4 (.free 5 (.free 6 (.free 7 (.free 8 (.free 9 (.free 10 (.free 11 (.free 12 (.free 13 (.free 14 (.free 15 (.free 16 (.free 17 (.free 18 (.free 19 (.free 20 (.free 21 (.free 22 (.free 23 (.free 24 .done))))))))))))))))))))))))) mix ?_
  | (refine callR (rIn _ _ _) ?_; rintro _ Hz ⟨rfl, hz⟩; subst Hz)
  | (refine askR (fun _ => _) (fun _ _ => rfl) (fun Hq _ => rIn Hq _ _) ?_)
  | refine Gs.mk (fun g => ?_) (fun g => ?_) <;> (try simp only [nm] at g) <;> try (exfalso; omega)
  | refine Gr.mk (fun g => ?_) (fun g => ?_) <;> (try simp only [nm] at g) <;> try (exfalso; omega)
  | (refine Run.of ?_; simp (maxSteps := 1000000) (disch := first | omega | assumption | (simp; done) | fail) [*, DImage.row, DFlat.row, DJob.row, DCell.row, irow, numB, idx22, idx23, idx24, idx53, wrap_i64])
 all_goals (try (refine Kx.mk ?_; refine owes_one (.inr rfl) hwf rfl ?_ ?_ ?_ ?_ <;> (try simp (maxDischargeDepth := 20) [*])))
 refine T_lp (fun k F H' => ∃ i : Nat, k = j.codes.length - i ∧ i ≤ j.codes.length ∧ F 6 = pi i ∧ F 2 = .ptr H.next 1 0 0 ∧ F 5 = .ptr (H.next + 1) 1 0 0 ∧ H'.box H.next = some [DImage.row c m] ∧ H'.box (H.next + 1) = some [DJob.row c j] ∧ H.next + 2 ≤ H'.next ∧ H.Ext H') (j.codes.length) ?_ ?_
 exact ⟨0, by omega, by omega, by simp [*], by simp [*], by simp [*], by simp [*], by simp [*], by simp [*], (by repeat (first | exact AS.Ext.refl _ | assumption | refine AS.Ext.bump ?_ | refine AS.Ext.setBox (by first | omega | (simp; omega) | (simp; done)) ?_))⟩
 rintro k F H1 ⟨i, rfl, hi, g6, g2, g5, hb0, hb, hnx, hx⟩
 have nb1 : ¬ H.next + 1 = H1.next := by omega
 have nb0 : ¬ H.next = H1.next := by omega
 have nb2 : H.next ≤ H1.next := by omega
 have hx8 : i < j.codes.length → ∃ a f : Int, ∃ d : DFlat, nth j.codes i = a ∧ nth m.codes a = d ∧ 0 ≤ a ∧ a < m.codes.length ∧ d.what = 3 ∧ nth j.bases i = f ∧ 0 ≤ f ∧ f ≤ m.cells.length - d.cells ∧ 0 ≤ d.cells ∧ d.cells ≤ 4096 := fun hj2 => by
  obtain ⟨q1, q2, q3, q4⟩ := f8 i hj2
  have e : nth j.codes i = ((nth j.codes i).toNat : Int) := by omega
  have q5 := hfc (nth m.codes (nth j.codes i)) (by rw [e]; exact nth_mem (by omega))
  rw [wi64] at q4
  exact ⟨_, _, _, rfl, rfl, q1.1, q1.2, q2, rfl, q3, by omega, q5.1, q5.2⟩
 clear f8 hfc
 rcases Nat.lt_or_ge i j.codes.length with hlt | hge
 all_goals (try (have hx9 := hx8 (by assumption); obtain ⟨a, f, d, q1, q2, q3, q4, q5, q6, q7, q8, q9, q10⟩ := hx9))
 all_goals clear hx8
 all_goals (try have q11 : IntKind.i64.wrap (m.cells.length - d.cells) = m.cells.length - d.cells := by rw [wi64]; omega)
 repeat' first
  | (refine T_jr 4 (fun F H' => F 2 = .ptr H.next 1 0 0 ∧ F 5 = .ptr (H.next + 1) 1 0 0 ∧ H'.box H.next = some [DImage.row c m] ∧ H'.box (H.next + 1) = some [DJob.row c j] ∧ H.next + 2 ≤ H'.next ∧ H.Ext H') ?_ ?_)
  | refine T_seq ?_
  | refine T_rgn ?_
  | refine T_cd ?_
  | refine T_sk ?_
  | refine T_rt ?_
  | refine T_block ?_
  | refine T_ex ?_
  | refine Kt_then ?_
  | refine Kt_block ?_
  | refine Kr_then ?_
  | refine Kr_block ?_
  | refine Kr_loop ?_
  | refine Ke_here ?_
  | refine Ke_then ?_
  | refine Ke_loop ?_
  | refine Ke_block ?_
  | refine Hid.mk ?_
  | (refine Kt_thenK ?_; exact ⟨by simp [*], by simp [*], by simp [*, DImage.row], by simp [*, DJob.row], by simp [*], (by repeat (first | exact AS.Ext.refl _ | assumption | refine AS.Ext.bump ?_ | refine AS.Ext.setBox (by first | omega | (simp; omega) | (simp; done)) ?_))⟩)
  | refine Kr_thenK ?_
  | (refine Jn.mk ?_; rintro F1 H1 ⟨g2, g5, hb0, hb, hnx, hx⟩)
  | refine T_dr (id := 11) (fun _ => True) [] (.free 0 (.free 1 (.free 2 (.free 3 (.free 4 (.free 5 (.free 6 (.free 7 (.free 8 (.free 9 (.free 10 .done))))))))))) mix ?_
  | refine T_dr (id := 13) (fun i => i = H.next ∨ i = H.next + 1) [] (.free 0 (.free 1 (.free 2 (.free 3 (.free 4 (.free 5 (.free 6 (.free 7 (.free 8 (.sole 9 (.sole 10 .done))))))))))) mix ?_
  | refine T_dr (id := 14) (fun _ => True) [] (.free 0 (.free 1 (.free 2 (.free 3 (.free 4 (.free 5 (.free 6 (.free 7 (.free 8 (.free 9 (.free 10 (.free 11 (.free 12 (.free 13 (.free 14 (.free 15 (.free 16 (.free 17 (.free 18 (.free 19 (.free 20 (.free 21 (.free 22 (.free 23 (.free 24 .done))))))))))))))))))))))))) mix ?_
  | (refine callR (rIn _ _ _) ?_; rintro _ Hz ⟨rfl, hz⟩; subst Hz)
  | (refine askR (fun _ => _) (fun _ _ => rfl) (fun Hq _ => rIn Hq _ _) ?_)
  | refine Gs.mk (fun g => ?_) (fun g => ?_) <;> (try simp only [nm] at g) <;> try (exfalso; omega)
  | refine Gr.mk (fun g => ?_) (fun g => ?_) <;> (try simp only [nm] at g) <;> try (exfalso; omega)
  | (refine Run.of ?_; simp (maxSteps := 1000000) (disch := first | omega | assumption | (simp; done) | fail) [*, DImage.row, DFlat.row, DJob.row, DCell.row, irow, numB, idx22, idx23, idx24, idx53, wrap_i64])
 all_goals (try (refine Kx.mk ?_; refine owes_one (.inr rfl) hwf rfl ?_ ?_ ?_ ?_ <;> (try simp (maxDischargeDepth := 20) [*])))
 all_goals (try (refine Kt_loop ⟨_, ?_, i + 1, rfl, by omega, by simp [*], by simp [*], by simp [*], by simp [*], by simp [*], by simp; omega, (by repeat (first | exact AS.Ext.refl _ | assumption | refine AS.Ext.bump ?_ | refine AS.Ext.setBox (by first | omega | (simp; omega) | (simp; done)) ?_))⟩ <;> omega))
 all_goals trace_state
theorem int_facts {k : Int} : integerB k = true ↔ 2 ≤ k ∧ k ≤ 9 := by
 unfold integerB; repeat' split
 all_goals (simp; try omega)
theorem cellB_facts {x : DCell} {av : List ByteArray} (h : cellB x av = true) : (1 ≤ x.kind ∧ x.kind ≤ 20) ∧ (x.sub = true → (2 ≤ x.kind ∧ x.kind ≤ 9) ∧ x.lo ≤ x.hi) ∧ (x.sub = false → x.lo = 0 ∧ x.hi = 0) ∧ (0 ≤ x.max ∧ x.max ≤ 254) ∧ (¬ x.kind = 19 → x.max = 0) ∧ (x.kind = 20 → eqv x.init.kind x.init.bits x.init.text 20 0 ⟨#[]⟩ = true ∧ x.keep = false) ∧ (¬ x.kind = 20 → fitsT (⟨x.kind, x.sub, x.lo, x.hi, x.max, false, 0, 0, ⟨#[]⟩⟩ : DType) x.init = 0) ∧ (x.addr = ⟨#[]⟩ → x.dir = 0) ∧ (¬ x.addr = ⟨#[]⟩ → (addrR x.addr).2.2 = true ∧ (addrR x.addr).2.1 = x.dir ∧ (addrR x.addr).1 = bitsN x.kind ∧ x.sub = false ∧ memB av x.addr = false) := by
 by_cases a1 : x.kind < 1
 simp [cellB, a1] at h
 by_cases a2 : 20 < x.kind
 simp [cellB, a1, a2] at h
 cases hs : x.sub with
 | true =>
  by_cases b1 : integerB x.kind = true
  rotate_left
  ·simp [cellB, a1, a2, hs, b1] at h
  have b2 := int_facts.1 b1
  have n19 : ¬ x.kind = 19 := by omega
  have n20 : ¬ x.kind = 20 := by omega
  by_cases b3 : x.hi < x.lo
  ·simp [cellB, a1, a2, hs, b1, b3] at h
  by_cases b4 : x.max < 0
  ·simp [cellB, a1, a2, hs, b1, b3, b4] at h
  by_cases b5 : 254 < x.max
  ·simp [cellB, a1, a2, hs, b1, b3, b4, b5] at h
  by_cases b6 : 0 < x.max
  ·simp [cellB, a1, a2, hs, b1, b3, b4, b5, b6, n19] at h
  by_cases b7 : fitsT (⟨x.kind, true, x.lo, x.hi, x.max, false, 0, 0, ⟨#[]⟩⟩ : DType) x.init = 0
  rotate_left
  ·simp [cellB, a1, a2, hs, b1, b3, b4, b5, b6, n20, b7] at h
  by_cases b8 : x.addr = ⟨#[]⟩
  rotate_left
  ·simp [cellB, a1, a2, hs, b1, b3, b4, b5, b6, n20, b7, b8] at h
  have b9 : x.dir = 0 := by simpa [cellB, a1, a2, hs, b1, b3, b4, b5, b6, n20, b7, b8] using h
  exact ⟨by omega, fun _ => ⟨b2, by omega⟩, by simp, by omega, fun _ => by omega, fun e => absurd e n20, fun _ => b7, fun _ => b9, fun e => absurd b8 e⟩
 | false =>
  by_cases b1 : x.lo = 0
  rotate_left
  ·simp [cellB, a1, a2, hs, b1] at h
  by_cases b3 : x.hi = 0
  rotate_left
  ·simp [cellB, a1, a2, hs, b1, b3] at h
  by_cases b4 : x.max < 0
  ·simp [cellB, a1, a2, hs, b1, b3, b4] at h
  by_cases b5 : 254 < x.max
  ·simp [cellB, a1, a2, hs, b1, b3, b4, b5] at h
  have key : (¬ x.kind = 19 → x.max = 0) ∧ (x.kind = 20 → eqv x.init.kind x.init.bits x.init.text 20 0 ⟨#[]⟩ = true ∧ x.keep = false) ∧ (¬ x.kind = 20 → fitsT (⟨x.kind, false, x.lo, x.hi, x.max, false, 0, 0, ⟨#[]⟩⟩ : DType) x.init = 0) ∧ (x.addr = ⟨#[]⟩ → x.dir = 0) ∧ (¬ x.addr = ⟨#[]⟩ → (addrR x.addr).2.2 = true ∧ (addrR x.addr).2.1 = x.dir ∧ (addrR x.addr).1 = bitsN x.kind ∧ memB av x.addr = false) := by
   rw [b1, b3]
   by_cases k19 : x.kind = 19
   ·by_cases b6 : 0 < x.max <;> by_cases b8 : x.addr = ⟨#[]⟩ <;> simp [cellB, a1, a2, hs, b1, b3, b4, b5, b6, k19, b8] at h ⊢ <;> simp [h]
   ·by_cases b6 : 0 < x.max
    ·simp [cellB, a1, a2, hs, b1, b3, b4, b5, b6, k19] at h
    ·by_cases k20 : x.kind = 20
     ·by_cases b8 : x.addr = ⟨#[]⟩ <;> simp [cellB, a1, a2, hs, b1, b3, b4, b5, b6, k20, b8] at h ⊢ <;> simp [h] <;> omega
     ·by_cases b8 : x.addr = ⟨#[]⟩ <;> simp [cellB, a1, a2, hs, b1, b3, b4, b5, b6, k19, k20, b8] at h ⊢ <;> simp [h] <;> omega
  exact ⟨by omega, fun e => (nomatch e), fun _ => ⟨b1, b3⟩, by omega, key.1, key.2.1, key.2.2.1, key.2.2.2.1, fun e => ⟨(key.2.2.2.2 e).1, (key.2.2.2.2 e).2.1, (key.2.2.2.2 e).2.2.1, rfl, (key.2.2.2.2 e).2.2.2⟩⟩
theorem boxSelf (H : AS) (i : Nat) (r : List (List PV)) : (H.setBox i r).box i = some r := by simp [AS.setBox]
theorem rTyped1 (H : AS) (k lo hi mx ik ib : Int) (sub keep : Bool) (it addr : ByteArray) (dir : Int) : ACalls Tryz.prog 92 [.agg [.val (.int .u8 k), pb sub, pi lo, pi hi, pi mx, .val (.int .u8 ik), .val (.int .u64 ib), ps it, pb keep, pi dir, ps addr]] H fun q H' => q = .agg [.val (.int .u8 k), pb sub, pi lo, pi hi, pi mx, pb false, pi 0, pi 0, ps ⟨#[]⟩] ∧ H' = H := rTyped H ⟨k, sub, lo, hi, mx, ⟨ik, ib, it⟩, keep, dir, addr⟩
theorem rFits1 (H : AS) (k lo hi mx ik ib : Int) (sub : Bool) (it : ByteArray) (hb : 0 ≤ ib ∧ ib < 2 ^ 64) (h : fitsT (⟨k, sub, lo, hi, mx, false, 0, 0, ⟨#[]⟩⟩ : DType) ⟨ik, ib, it⟩ = 0) : ACalls Tryz.prog 91 [.agg [.val (.int .u8 k), pb sub, pi lo, pi hi, pi mx, pb false, pi 0, pi 0, ps ⟨#[]⟩], .agg [.val (.int .u8 ik), .val (.int .u64 ib), ps it]] H fun q H' => q = pi 0 ∧ H' = H := rFits H _ _ hb h
theorem rCell (H : AS) (c : Nat) (cells : List DCell) (i : Nat) (hi : i < cells.length) (hn : cells.length < 2 ^ 62) (x : DCell) (hx0 : nth cells i = x) (av : List ByteArray) (h : cellB x av = true) (hb : 0 ≤ x.init.bits ∧ x.init.bits < 2 ^ 64) (hs : x.addr.size ≤ 281474976710656) (hd : ¬ x.addr = ⟨#[]⟩ → ∀ j : Nat, j < i → ¬ (nth cells j).addr = x.addr) : ACalls Tryz.prog 66 [PV.sl c 11 (cells.map DCell.row), pi i] H fun q H' => q = pb true ∧ H' = H := by
 refine ACalls_intro Tryz.func66 rfl (by kernel_rfl) (by simp) fun hwf hbel => ?_
 have hdir := addrR_dir x.addr
 obtain ⟨f1, f2, f3, f4, f5, f6, f7, f8, f9⟩ := cellB_facts h
 have e2 : x.kind = 20 → x.init.kind = 20 ∧ x.init.bits = 0 ∧ x.init.text = ⟨#[]⟩ := fun e => eqv_iff.1 (f6 e).1
 have e3 : x.init.kind = x.kind := by
  by_cases e : x.kind = 20
  ·rw [e, (e2 e).1]
  ·exact ((fitsT_facts (f7 e)).2.1).symm
 have hdir2 : 0 ≤ x.dir ∧ x.dir ≤ 2 := by
  by_cases e : x.addr = ⟨#[]⟩
  ·have := f8 e; omega
  ·have := (f9 e).2.1; omega
 clear h hdir
 obtain ⟨kind, sub, lo, hi, max, ⟨ik, ib, it⟩, keep, dir, addr⟩ := x
 dsimp only at *
 subst e3
 have hk : ik = 19 ∨ ik = 20 ∨ (¬ ik = 19 ∧ ¬ ik = 20) := by omega
 cases sub
 all_goals (try have f2 := f2 rfl)
 all_goals (try (have f3 := f3 rfl; obtain ⟨rfl, rfl⟩ := f3))
 all_goals rcases hk with rfl | rfl | ⟨n19, n20⟩
 all_goals (try (exfalso; omega))
 all_goals (try (have f5 := f5 (by assumption); subst f5))
 all_goals (try (have f5 := f5 (by decide); subst f5))
 all_goals (try have f6 := f6 rfl)
 all_goals (try have e2 := e2 rfl)
 all_goals (try have f7 := f7 (by assumption))
 all_goals (try have f7 := f7 (by decide))
 all_goals rcases Classical.em (addr = ⟨#[]⟩) with rfl | na
 all_goals (try (have f8 := f8 rfl; subst f8))
 all_goals (try have f9 := f9 (by assumption))
 all_goals (try (exfalso; simp at f9; done))
 repeat' first
  | refine T_seq ?_
  | refine T_rgn ?_
  | refine T_cd ?_
  | refine T_sk ?_
  | refine T_rt ?_
  | refine T_block ?_
  | refine T_ex ?_
  | refine Kt_then ?_
  | refine Kt_block ?_
  | refine Kr_then ?_
  | refine Kr_block ?_
  | refine Ke_here ?_
  | refine Ke_then ?_
  | refine Hid.mk ?_
  | refine T_dr (id := 10) (fun _ => True) [] (.free 0 (.free 1 (.free 2 (.free 3 (.free 4 (.free 5 .done)))))) mix ?_
  | refine T_dr (id := 22) (fun _ => True) [] (.free 0 (.free 1 (.free 2 (.free 3 (.free 4 (.free 5 (.free 6 (.free 7 .done)))))))) mix ?_
  | (refine callR (rTyped1 _ _ _ _ _ _ _ _ _ _ _ _) ?_; rintro _ Hz ⟨rfl, hz⟩; subst Hz)
  | (refine askR (fun _ => _) (fun _ _ => rfl) (fun Hq _ => rTyped1 Hq _ _ _ _ _ _ _ _ _ _ _) ?_)
  | (refine callR (rFits1 _ _ _ _ _ _ _ _ _ hb (by assumption)) ?_; rintro _ Hz ⟨rfl, hz⟩; subst Hz)
  | (refine askR (fun _ => _) (fun _ _ => rfl) (fun Hq _ => rFits1 Hq _ _ _ _ _ _ _ _ hb (by assumption)) ?_)
  | (refine callR (rIsAddr _ _ hs f9.1) ?_; rintro _ Hz ⟨rfl, hz⟩; subst Hz)
  | (refine askR (fun _ => _) (fun _ _ => rfl) (fun Hq _ => rIsAddr Hq _ hs f9.1) ?_)
  | (refine callR (rWidth4 _ _) ?_; rintro _ Hz ⟨rfl, hz⟩; subst Hz)
  | (refine askR (fun _ => _) (fun _ _ => rfl) (fun Hq _ => rWidth4 Hq _) ?_)
  | refine Gs.mk (fun g => ?_) (fun g => ?_) <;> (try simp only [nm] at g) <;> try (exfalso; omega)
  | refine Gr.mk (fun g => ?_) (fun g => ?_) <;> (try simp only [nm] at g) <;> try (exfalso; omega)
  | (refine Run.of ?_; simp (maxSteps := 1000000) (disch := first | omega | assumption | (simp; done) | fail) [*, DCell.row, idx22, wrap_i64, beq_bytes, DType.row])
 all_goals (try (refine Kx.mk ?_; refine owes_one (.inr rfl) hwf rfl ?_ ?_ ?_ ?_ <;> (try simp (maxDischargeDepth := 20) [*])))
 all_goals (
  refine T_lp (fun k F H' => ∃ (k1 mx k2 b1 d1 : Int) (t1 : ByteArray) (kp : Bool) (j : Nat), k = i - j ∧ j ≤ i ∧ F 0 = PV.sl c 11 (cells.map DCell.row) ∧ F 1 = pi i ∧ F 10 = pi j ∧ F 5 = .ptr H.next 1 0 0 ∧ H'.box H.next = some [[.val (.int .u8 k1), pb false, pi 0, pi 0, pi mx, .val (.int .u8 k2), .val (.int .u64 b1), ps t1, pb kp, pi d1, ps addr]] ∧ H.next + 1 ≤ H'.next ∧ H.Ext H') (i) ?_ ?_
  ·exact ⟨_, _, _, _, _, _, _, 0, by omega, by omega, by simp [*], by simp [*], by simp [*], by simp [*], boxSelf _ _ _, by simp [*], (by repeat (first | exact AS.Ext.refl _ | assumption | refine AS.Ext.bump ?_ | refine AS.Ext.setBox (by first | omega | (simp; omega) | (simp; done)) ?_))⟩
  rintro k F H1 ⟨k1, mx, k2, b1, d1, t1, kp, j, rfl, hj, g0, g1, g10, g5, hb0, hnx, hx⟩
  have hd2 := hd (by assumption) j
  clear hd
  repeat' first
   | refine T_seq ?_
   | refine T_rgn ?_
   | refine T_cd ?_
   | refine T_sk ?_
   | refine T_rt ?_
   | refine T_block ?_
   | refine T_ex ?_
   | refine Kt_then ?_
   | refine Kt_block ?_
   | refine Kr_then ?_
   | refine Kr_block ?_
   | refine Kr_loop ?_
   | refine Ke_here ?_
   | refine Ke_then ?_
   | refine Ke_loop ?_
   | refine Ke_block ?_
   | refine Hid.mk ?_
   | refine T_dr (id := 10) (fun _ => True) [] (.free 0 (.free 1 (.free 2 (.free 3 (.free 4 (.free 5 .done)))))) mix ?_
   | refine T_dr (id := 22) (fun _ => True) [] (.free 0 (.free 1 (.free 2 (.free 3 (.free 4 (.free 5 (.free 6 (.free 7 .done)))))))) mix ?_
   | (refine callR (rTyped1 _ _ _ _ _ _ _ _ _ _ _ _) ?_; rintro _ Hz ⟨rfl, hz⟩; subst Hz)
   | (refine askR (fun _ => _) (fun _ _ => rfl) (fun Hq _ => rTyped1 Hq _ _ _ _ _ _ _ _ _ _ _) ?_)
   | (refine callR (rFits1 _ _ _ _ _ _ _ _ _ hb (by assumption)) ?_; rintro _ Hz ⟨rfl, hz⟩; subst Hz)
   | (refine askR (fun _ => _) (fun _ _ => rfl) (fun Hq _ => rFits1 Hq _ _ _ _ _ _ _ _ hb (by assumption)) ?_)
   | (refine callR (rIsAddr _ _ hs f9.1) ?_; rintro _ Hz ⟨rfl, hz⟩; subst Hz)
   | (refine askR (fun _ => _) (fun _ _ => rfl) (fun Hq _ => rIsAddr Hq _ hs f9.1) ?_)
   | (refine callR (rWidth4 _ _) ?_; rintro _ Hz ⟨rfl, hz⟩; subst Hz)
   | (refine askR (fun _ => _) (fun _ _ => rfl) (fun Hq _ => rWidth4 Hq _) ?_)
   | refine Gs.mk (fun g => ?_) (fun g => ?_) <;> (try simp only [nm] at g) <;> try (exfalso; omega)
   | refine Gr.mk (fun g => ?_) (fun g => ?_) <;> (try simp only [nm] at g) <;> try (exfalso; omega)
   | (refine Run.of ?_; simp (maxSteps := 1000000) (disch := first | omega | assumption | (simp; done) | fail) [*, DCell.row, idx22, wrap_i64, beq_bytes, DType.row])
  all_goals (try (refine Kx.mk ?_; refine owes_one (.inr rfl) hwf rfl ?_ ?_ ?_ ?_ <;> (try simp (maxDischargeDepth := 20) [*])))
  all_goals (try (refine Kt_loop ⟨_, ?_, _, _, _, _, _, _, _, j + 1, rfl, by omega, by simp [*], by simp [*], by simp [*], by simp [*], hb0, by simp [*], (by repeat (first | exact AS.Ext.refl _ | assumption | refine AS.Ext.bump ?_ | refine AS.Ext.setBox (by first | omega | (simp; omega) | (simp; done)) ?_))⟩ <;> omega)))
 all_goals trace_state
structure CheckF (m : DImage) : Prop where
 name : nameB m.name = true
 nc : m.cells.length ≤ 4096
 nf : m.codes.length ≤ 64
 nj : m.jobs.length ≤ 16
 cell : ∀ i : Nat, i < m.cells.length → ∃ av, cellB (nth m.cells i) av = true ∧ (0 ≤ (nth m.cells i).init.bits ∧ (nth m.cells i).init.bits < 2 ^ 64) ∧ (nth m.cells i).addr.size ≤ 281474976710656 ∧ (¬ (nth m.cells i).addr = ⟨#[]⟩ → ∀ j : Nat, j < i → ¬ (nth m.cells j).addr = (nth m.cells i).addr)
 code : ∀ i : Nat, i < m.codes.length → nameB (nth m.codes i).name = true ∧ headB (nth m.codes i) m.cells.length = true ∧ (nth m.codes i).ops.length ≤ 16384 ∧ (nth m.codes i).loops.length ≤ 16384 ∧ totN m (i + 1) ≤ 16384
 op : ∀ i : Nat, i < m.codes.length → ∀ p : Nat, p < (nth m.codes i).ops.length → mayO ⟨nth m.codes i, m.codes.length⟩ (nth (nth m.codes i).ops p) = true ∧ (0 ≤ (nth (nth m.codes i).ops p).value.bits ∧ (nth (nth m.codes i).ops p).value.bits < 2 ^ 64) ∧ (-(2 ^ 63) ≤ (nth (nth m.codes i).ops p).lo ∧ (nth (nth m.codes i).ops p).lo < 2 ^ 63) ∧ (-(2 ^ 63) ≤ (nth (nth m.codes i).ops p).hi ∧ (nth (nth m.codes i).ops p).hi < 2 ^ 63)
 job : ∀ i : Nat, i < m.jobs.length → nameB (nth m.jobs i).name = true ∧ jobB m (nth m.jobs i) = true ∧ ∀ k : Nat, k < i → ¬ (nth m.jobs k).name = (nth m.jobs i).name
theorem CheckF.fc {m : DImage} (h : CheckF m) : ∀ f ∈ m.codes, 0 ≤ f.cells ∧ f.cells ≤ 4096 := fun f hf => by
 obtain ⟨i, hi, rfl⟩ := nth_of_mem hf
 have := h.nc
 exact (headB_facts ⟨by omega, by omega⟩ (h.code i hi).2.1).2.1
theorem rInstr2 (H : AS) (c : Nat) (m : DImage) (hC : CheckF m) (i p : Nat) (hi : i < m.codes.length) (hp : p < (nth m.codes i).ops.length) :
  ACalls Tryz.prog 68 [.agg (nth (nth m.codes i).ops p).row, .agg ((nth m.codes i).row c), pi m.codes.length] H fun q H' => q = pb true ∧ H' = H := by
 obtain ⟨a1, a2, a3, a4, a5⟩ := hC.code i hi
 obtain ⟨b1, b2, b3, b4⟩ := hC.op i hi p hp
 have := hC.nc
 have hf := headB_facts (n := m.cells.length) ⟨by omega, by omega⟩ a2
 obtain ⟨r1, r2, r3, r4⟩ := mayO_rule b1
 have := hC.nf
 exact rInstr H c _ _ _ hf.2.2.1 hf.2.2.2.1 (by omega) ⟨by omega, by omega⟩ b2 b3 b4 r1 r2 r3 r4
theorem rCell2 (H : AS) (c : Nat) (m : DImage) (hC : CheckF m) (i : Nat) (hi : i < m.cells.length) :
  ACalls Tryz.prog 66 [PV.sl c 11 (m.cells.map DCell.row), pi i] H fun q H' => q = pb true ∧ H' = H := by
 obtain ⟨av, a1, a2, a3, a4⟩ := hC.cell i hi
 have := hC.nc
 exact rCell H c _ i hi (by omega) _ rfl av a1 a2 a3 a4
theorem rCode2 (H : AS) (c : Nat) (m : DImage) (hC : CheckF m) (i : Nat) (hi : i < m.codes.length) :
  ACalls Tryz.prog 67 [.agg (m.row c), pi i] H fun q H' => q = pb true ∧ H' = H := by
 obtain ⟨a1, a2, a3, a4, a5⟩ := hC.code i hi
 have := hC.nc
 have := hC.nf
 exact rCode H c m i hi (by omega) (by omega) (by omega) (by omega) a2
theorem rJob2 (H : AS) (c : Nat) (m : DImage) (hC : CheckF m) (i : Nat) (hi : i < m.jobs.length) :
  ACalls Tryz.prog 69 [.agg (m.row c), pi i] H fun q H' => q = pb true ∧ H' = H := by
 obtain ⟨a1, a2, a3⟩ := hC.job i hi
 have := hC.nc
 have := hC.nf
 exact rJob H c m i hi (by omega) (by omega) hC.fc _ rfl a2
theorem rCheck (H : AS) (c : Nat) (m : DImage) (hC : CheckF m) : ACalls Tryz.prog 32 [.agg (m.row c)] H fun q H' => q = .tuple [pi 0, pi 0, pi 0] ∧ H' = H := by
 refine ACalls_intro Tryz.func32 rfl (by kernel_rfl) (by simp) fun hwf hbel => ?_
 have n1 := hC.nc
 have n2 := hC.nf
 have n3 := hC.nj
 have n4 := hC.name
 repeat' first
  | refine T_seq ?_
  | refine T_rgn ?_
  | refine T_cd ?_
  | refine T_sk ?_
  | refine T_rt ?_
  | refine T_block ?_
  | refine T_ex ?_
  | refine Kt_then ?_
  | refine Kt_block ?_
  | refine Kr_then ?_
  | refine Kr_block ?_
  | refine Ke_here ?_
  | refine Ke_then ?_
  | refine Hid.mk ?_
  | refine T_dr (id := 29) (fun _ => True) [] (.free 0 (.free 1 (.free 2 (.free 3 (.free 4 (.free 5 (.free 6 (.free 7 (.free 8 (.free 9 (.free 10 .done))))))))))) mix ?_
  | refine T_dr (id := 38) (fun _ => True) [] (.free 0 (.free 1 (.free 2 (.free 3 (.free 4 (.free 5 (.free 6 (.free 7 (.free 8 (.free 9 (.free 10 (.free 11 (.free 12 (.free 13 (.free 14 (.free 15 (.free 16 .done))))))))))))))))) mix ?_
  | (refine callR (rIsName _ _ (by assumption)) ?_; rintro _ Hz ⟨rfl, hz⟩; subst Hz)
  | (refine askR (fun _ => _) (fun _ _ => rfl) (fun Hq _ => rIsName Hq _ (by assumption)) ?_)
  | (refine callR (rInstr2 _ c m hC i p (by assumption) (by assumption)) ?_; rintro _ Hz ⟨rfl, hz⟩; subst Hz)
  | (refine askR (fun _ => _) (fun _ _ => rfl) (fun Hq _ => rInstr2 Hq c m hC i p (by assumption) (by assumption)) ?_)
  | (refine callR (rJob2 _ c m hC i (by assumption)) ?_; rintro _ Hz ⟨rfl, hz⟩; subst Hz)
  | (refine askR (fun _ => _) (fun _ _ => rfl) (fun Hq _ => rJob2 Hq c m hC i (by assumption)) ?_)
  | (refine callR (rCell2 _ c m hC i (by assumption)) ?_; rintro _ Hz ⟨rfl, hz⟩; subst Hz)
  | (refine askR (fun _ => _) (fun _ _ => rfl) (fun Hq _ => rCell2 Hq c m hC i (by assumption)) ?_)
  | (refine callR (rCode2 _ c m hC i (by assumption)) ?_; rintro _ Hz ⟨rfl, hz⟩; subst Hz)
  | (refine askR (fun _ => _) (fun _ _ => rfl) (fun Hq _ => rCode2 Hq c m hC i (by assumption)) ?_)
  | refine Gs.mk (fun g => ?_) (fun g => ?_) <;> (try simp only [nm] at g) <;> try (exfalso; omega)
  | refine Gr.mk (fun g => ?_) (fun g => ?_) <;> (try simp only [nm] at g) <;> try (exfalso; omega)
  | (refine Run.of ?_; simp (maxSteps := 1000000) (disch := first | omega | assumption | (simp; done) | fail) [*, DImage.row, DFlat.row, DJob.row, idx23, idx24, idx45, wrap_i64, beq_bytes])
 all_goals (try (refine Kx.mk ?_; refine owes_vals (qs := [pi 0, pi 0, pi 0]) (.inr rfl) hwf rfl rfl ?_ ?_ ?_ ?_ <;> (try simp (maxDischargeDepth := 20) [*])))
 refine T_lp (fun k F H' => ∃ i : Nat, k = m.cells.length - i ∧ i ≤ m.cells.length ∧ F 5 = pi i ∧ F 1 = .ptr H.next 1 0 0 ∧ H'.box H.next = some [DImage.row c m] ∧ H.next + 1 ≤ H'.next ∧ H.Ext H') (m.cells.length) ?_ ?_
 exact ⟨0, by omega, by omega, by simp [*], by simp [*], by simp [*, DImage.row], (by first | omega | (simp; omega) | (simp; done)), (by repeat (first | exact AS.Ext.refl _ | assumption | refine AS.Ext.bump ?_ | refine AS.Ext.setBox (by first | omega | (simp; omega) | (simp; done)) ?_))⟩
 rintro k F H1 ⟨i, rfl, hi, g5, g1, hb0, hnx, hx⟩
 have nb0 : ¬ H.next = H1.next := by omega
 have nb2 : H.next ≤ H1.next := by omega
 repeat' first
  | refine T_seq ?_
  | refine T_rgn ?_
  | refine T_cd ?_
  | refine T_sk ?_
  | refine T_rt ?_
  | refine T_block ?_
  | refine T_ex ?_
  | refine Kt_then ?_
  | refine Kt_block ?_
  | refine Kr_then ?_
  | refine Kr_block ?_
  | refine Kr_loop ?_
  | refine Ke_here ?_
  | refine Ke_then ?_
  | refine Ke_loop ?_
  | refine Ke_block ?_
  | refine Hid.mk ?_
  | refine T_dr (id := 29) (fun _ => True) [] (.free 0 (.free 1 (.free 2 (.free 3 (.free 4 (.free 5 (.free 6 (.free 7 (.free 8 (.free 9 (.free 10 .done))))))))))) mix ?_
  | refine T_dr (id := 38) (fun _ => True) [] (.free 0 (.free 1 (.free 2 (.free 3 (.free 4 (.free 5 (.free 6 (.free 7 (.free 8 (.free 9 (.free 10 (.free 11 (.free 12 (.free 13 (.free 14 (.free 15 (.free 16 .done))))))))))))))))) mix ?_
  | (refine callR (rIsName _ _ (by assumption)) ?_; rintro _ Hz ⟨rfl, hz⟩; subst Hz)
  | (refine askR (fun _ => _) (fun _ _ => rfl) (fun Hq _ => rIsName Hq _ (by assumption)) ?_)
  | (refine callR (rInstr2 _ c m hC i p (by assumption) (by assumption)) ?_; rintro _ Hz ⟨rfl, hz⟩; subst Hz)
  | (refine askR (fun _ => _) (fun _ _ => rfl) (fun Hq _ => rInstr2 Hq c m hC i p (by assumption) (by assumption)) ?_)
  | (refine callR (rJob2 _ c m hC i (by assumption)) ?_; rintro _ Hz ⟨rfl, hz⟩; subst Hz)
  | (refine askR (fun _ => _) (fun _ _ => rfl) (fun Hq _ => rJob2 Hq c m hC i (by assumption)) ?_)
  | (refine callR (rCell2 _ c m hC i (by assumption)) ?_; rintro _ Hz ⟨rfl, hz⟩; subst Hz)
  | (refine askR (fun _ => _) (fun _ _ => rfl) (fun Hq _ => rCell2 Hq c m hC i (by assumption)) ?_)
  | (refine callR (rCode2 _ c m hC i (by assumption)) ?_; rintro _ Hz ⟨rfl, hz⟩; subst Hz)
  | (refine askR (fun _ => _) (fun _ _ => rfl) (fun Hq _ => rCode2 Hq c m hC i (by assumption)) ?_)
  | refine Gs.mk (fun g => ?_) (fun g => ?_) <;> (try simp only [nm] at g) <;> try (exfalso; omega)
  | refine Gr.mk (fun g => ?_) (fun g => ?_) <;> (try simp only [nm] at g) <;> try (exfalso; omega)
  | (refine Run.of ?_; simp (maxSteps := 1000000) (disch := first | omega | assumption | (simp; done) | fail) [*, DImage.row, DFlat.row, DJob.row, idx23, idx24, idx45, wrap_i64, beq_bytes])
 all_goals (try (refine Kx.mk ?_; refine owes_vals (qs := [pi 0, pi 0, pi 0]) (.inr rfl) hwf rfl rfl ?_ ?_ ?_ ?_ <;> (try simp (maxDischargeDepth := 20) [*])))
 all_goals first | (refine Kt_loop ⟨_, ?_, i + 1, rfl, by omega, by simp [*], by simp [*], by simp [*], (by first | omega | (simp; omega) | (simp; done)), (by repeat (first | exact AS.Ext.refl _ | assumption | refine AS.Ext.bump ?_ | refine AS.Ext.setBox (by first | omega | (simp; omega) | (simp; done)) ?_))⟩ <;> omega) | skip
 all_goals (try (refine Kx.mk ?_; refine owes_vals (qs := [pi 0, pi 0, pi 0]) (.inr rfl) hwf rfl rfl ?_ ?_ ?_ ?_ <;> (try simp (maxDischargeDepth := 20) [*])))
 refine T_lp (fun k F H' => ∃ i : Nat, k = m.codes.length - i ∧ i ≤ m.codes.length ∧ F 6 = pi (totN m i) ∧ F 7 = pi i ∧ F 1 = .ptr H.next 1 0 0 ∧ H'.box H.next = some [DImage.row c m] ∧ H.next + 1 ≤ H'.next ∧ H.Ext H') (m.codes.length) ?_ ?_
 exact ⟨0, by omega, by omega, by simp [*, totN_zero], by simp [*], by simp [*], by simp [*, DImage.row], (by first | omega | (simp; omega) | (simp; done)), (by repeat (first | exact AS.Ext.refl _ | assumption | refine AS.Ext.bump ?_ | refine AS.Ext.setBox (by first | omega | (simp; omega) | (simp; done)) ?_))⟩
 rintro k F H1 ⟨i, rfl, hi, g6, g7, g1, hb0, hnx, hx⟩
 have nb0 : ¬ H.next = H1.next := by omega
 have nb2 : H.next ≤ H1.next := by omega
 have hcd := hC.code i
 have hts : i < m.codes.length → (totN m i : Int) + (nth m.codes i).ops.length = totN m (i + 1) := fun e => by rw [totN_succ e]; omega
 have hcd2 : i < m.codes.length → nameB (nth m.codes i).name = true := fun e => (hcd e).1
 have hcd3 : i < m.codes.length → (nth m.codes i).ops.length ≤ 16384 ∧ (nth m.codes i).loops.length ≤ 16384 ∧ totN m (i + 1) ≤ 16384 := fun e => (hcd e).2.2
 clear hcd
 have htw : i < m.codes.length → IntKind.i64.wrap ((totN m i : Int) + (nth m.codes i).ops.length) = totN m (i + 1) := fun e => by rw [hts e]; exact wrap_i64 (by have := hcd3 e; omega) (by have := hcd3 e; omega)
 rcases Nat.lt_or_ge i m.codes.length with hlt | hge
 all_goals (try (have hcd2 := hcd2 (by assumption); have hcd3 := hcd3 (by assumption); have htw := htw (by assumption)))
 clear hts
 repeat' first
  | refine T_seq ?_
  | refine T_rgn ?_
  | refine T_cd ?_
  | refine T_sk ?_
  | refine T_rt ?_
  | refine T_block ?_
  | refine T_ex ?_
  | refine Kt_then ?_
  | refine Kt_block ?_
  | refine Kr_then ?_
  | refine Kr_block ?_
  | refine Kr_loop ?_
  | refine Ke_here ?_
  | refine Ke_then ?_
  | refine Ke_loop ?_
  | refine Ke_block ?_
  | refine Hid.mk ?_
  | refine T_dr (id := 29) (fun _ => True) [] (.free 0 (.free 1 (.free 2 (.free 3 (.free 4 (.free 5 (.free 6 (.free 7 (.free 8 (.free 9 (.free 10 .done))))))))))) mix ?_
  | refine T_dr (id := 38) (fun _ => True) [] (.free 0 (.free 1 (.free 2 (.free 3 (.free 4 (.free 5 (.free 6 (.free 7 (.free 8 (.free 9 (.free 10 (.free 11 (.free 12 (.free 13 (.free 14 (.free 15 (.free 16 .done))))))))))))))))) mix ?_
  | (refine callR (rIsName _ _ (by assumption)) ?_; rintro _ Hz ⟨rfl, hz⟩; subst Hz)
  | (refine askR (fun _ => _) (fun _ _ => rfl) (fun Hq _ => rIsName Hq _ (by assumption)) ?_)
  | (refine callR (rInstr2 _ c m hC i p (by assumption) (by assumption)) ?_; rintro _ Hz ⟨rfl, hz⟩; subst Hz)
  | (refine askR (fun _ => _) (fun _ _ => rfl) (fun Hq _ => rInstr2 Hq c m hC i p (by assumption) (by assumption)) ?_)
  | (refine callR (rJob2 _ c m hC i (by assumption)) ?_; rintro _ Hz ⟨rfl, hz⟩; subst Hz)
  | (refine askR (fun _ => _) (fun _ _ => rfl) (fun Hq _ => rJob2 Hq c m hC i (by assumption)) ?_)
  | (refine callR (rCell2 _ c m hC i (by assumption)) ?_; rintro _ Hz ⟨rfl, hz⟩; subst Hz)
  | (refine askR (fun _ => _) (fun _ _ => rfl) (fun Hq _ => rCell2 Hq c m hC i (by assumption)) ?_)
  | (refine callR (rCode2 _ c m hC i (by assumption)) ?_; rintro _ Hz ⟨rfl, hz⟩; subst Hz)
  | (refine askR (fun _ => _) (fun _ _ => rfl) (fun Hq _ => rCode2 Hq c m hC i (by assumption)) ?_)
  | refine Gs.mk (fun g => ?_) (fun g => ?_) <;> (try simp only [nm] at g) <;> try (exfalso; omega)
  | refine Gr.mk (fun g => ?_) (fun g => ?_) <;> (try simp only [nm] at g) <;> try (exfalso; omega)
  | (refine Run.of ?_; simp (maxSteps := 1000000) (disch := first | omega | assumption | (simp; done) | fail) [*, DImage.row, DFlat.row, DJob.row, idx23, idx24, idx45, wrap_i64, beq_bytes])
 all_goals (try (refine Kx.mk ?_; refine owes_vals (qs := [pi 0, pi 0, pi 0]) (.inr rfl) hwf rfl rfl ?_ ?_ ?_ ?_ <;> (try simp (maxDischargeDepth := 20) [*])))
 all_goals first | (refine Kt_loop ⟨_, ?_, i + 1, rfl, by omega, by simp [*], by simp [*], by simp [*], (by first | omega | (simp; omega) | (simp; done)), (by repeat (first | exact AS.Ext.refl _ | assumption | refine AS.Ext.bump ?_ | refine AS.Ext.setBox (by first | omega | (simp; omega) | (simp; done)) ?_))⟩ <;> omega) | skip
 all_goals (try (refine Kx.mk ?_; refine owes_vals (qs := [pi 0, pi 0, pi 0]) (.inr rfl) hwf rfl rfl ?_ ?_ ?_ ?_ <;> (try simp (maxDischargeDepth := 20) [*])))
 obtain ⟨b8, eb8⟩ : ∃ b, b = H1.next := ⟨_, rfl⟩
 refine T_lp (fun k F H' => ∃ p : Nat, k = (nth m.codes i).ops.length - p ∧ p ≤ (nth m.codes i).ops.length ∧ F 9 = pi p ∧ F 6 = pi (totN m (i + 1)) ∧ F 7 = pi i ∧ F 8 = .ptr b8 1 0 0 ∧ H'.box b8 = some [DFlat.row c (nth m.codes i)] ∧ (H.next < b8 ∧ b8 < H'.next) ∧ F 1 = .ptr H.next 1 0 0 ∧ H'.box H.next = some [DImage.row c m] ∧ H.next + 1 ≤ H'.next ∧ H.Ext H') ((nth m.codes i).ops.length) ?_ ?_
 exact ⟨0, by omega, by omega, by simp [*], by simp [*], by simp [*], by simp [*], by simp [*, DFlat.row], by rw [eb8]; simp; omega, by simp [*], by simp [*, DImage.row], (by first | omega | (simp; omega) | (simp; done)), (by repeat (first | exact AS.Ext.refl _ | assumption | refine AS.Ext.bump ?_ | refine AS.Ext.setBox (by first | omega | (simp; omega) | (simp; done)) ?_))⟩
 rintro k F H1 ⟨p, rfl, hp, g9, g6, g7, g8, hb8, hlt8, g1, hb0, hnx, hx⟩
 have nb0 : ¬ H.next = H1.next := by omega
 have nb2 : H.next ≤ H1.next := by omega
 have nb3 : ¬ H.next = b8 := by omega
 have nb4 : ¬ b8 = H1.next := by omega
 clear eb8
 repeat' first
  | refine T_seq ?_
  | refine T_rgn ?_
  | refine T_cd ?_
  | refine T_sk ?_
  | refine T_rt ?_
  | refine T_block ?_
  | refine T_ex ?_
  | refine Kt_then ?_
  | refine Kt_block ?_
  | refine Kr_then ?_
  | refine Kr_block ?_
  | refine Kr_loop ?_
  | refine Ke_here ?_
  | refine Ke_then ?_
  | refine Ke_loop ?_
  | refine Ke_block ?_
  | refine Hid.mk ?_
  | refine T_dr (id := 29) (fun _ => True) [] (.free 0 (.free 1 (.free 2 (.free 3 (.free 4 (.free 5 (.free 6 (.free 7 (.free 8 (.free 9 (.free 10 .done))))))))))) mix ?_
  | refine T_dr (id := 38) (fun _ => True) [] (.free 0 (.free 1 (.free 2 (.free 3 (.free 4 (.free 5 (.free 6 (.free 7 (.free 8 (.free 9 (.free 10 (.free 11 (.free 12 (.free 13 (.free 14 (.free 15 (.free 16 .done))))))))))))))))) mix ?_
  | (refine callR (rIsName _ _ (by assumption)) ?_; rintro _ Hz ⟨rfl, hz⟩; subst Hz)
  | (refine askR (fun _ => _) (fun _ _ => rfl) (fun Hq _ => rIsName Hq _ (by assumption)) ?_)
  | (refine callR (rInstr2 _ c m hC i p (by assumption) (by assumption)) ?_; rintro _ Hz ⟨rfl, hz⟩; subst Hz)
  | (refine askR (fun _ => _) (fun _ _ => rfl) (fun Hq _ => rInstr2 Hq c m hC i p (by assumption) (by assumption)) ?_)
  | (refine callR (rJob2 _ c m hC i (by assumption)) ?_; rintro _ Hz ⟨rfl, hz⟩; subst Hz)
  | (refine askR (fun _ => _) (fun _ _ => rfl) (fun Hq _ => rJob2 Hq c m hC i (by assumption)) ?_)
  | (refine callR (rCell2 _ c m hC i (by assumption)) ?_; rintro _ Hz ⟨rfl, hz⟩; subst Hz)
  | (refine askR (fun _ => _) (fun _ _ => rfl) (fun Hq _ => rCell2 Hq c m hC i (by assumption)) ?_)
  | (refine callR (rCode2 _ c m hC i (by assumption)) ?_; rintro _ Hz ⟨rfl, hz⟩; subst Hz)
  | (refine askR (fun _ => _) (fun _ _ => rfl) (fun Hq _ => rCode2 Hq c m hC i (by assumption)) ?_)
  | refine Gs.mk (fun g => ?_) (fun g => ?_) <;> (try simp only [nm] at g) <;> try (exfalso; omega)
  | refine Gr.mk (fun g => ?_) (fun g => ?_) <;> (try simp only [nm] at g) <;> try (exfalso; omega)
  | (refine Run.of ?_; simp (maxSteps := 1000000) (disch := first | omega | assumption | (simp; done) | fail) [*, DImage.row, DFlat.row, DJob.row, idx23, idx24, idx45, wrap_i64, beq_bytes])
 all_goals (try (refine Kx.mk ?_; refine owes_vals (qs := [pi 0, pi 0, pi 0]) (.inr rfl) hwf rfl rfl ?_ ?_ ?_ ?_ <;> (try simp (maxDischargeDepth := 20) [*])))
 all_goals first | (refine Kt_loop ⟨_, ?_, p + 1, rfl, by omega, by simp [*], by simp [*], by simp [*], by simp [*], by simp [*], by omega, by simp [*], by simp [*], by omega, (by repeat (first | exact AS.Ext.refl _ | assumption | refine AS.Ext.bump ?_ | refine AS.Ext.setBox (by first | omega | (simp; omega) | (simp; done)) ?_))⟩ <;> omega) | (refine Kt_loop ⟨_, ?_, i + 1, rfl, by omega, by simp [*], by simp [*], by simp [*], by simp [*], by omega, (by repeat (first | exact AS.Ext.refl _ | assumption | refine AS.Ext.bump ?_ | refine AS.Ext.setBox (by first | omega | (simp; omega) | (simp; done)) ?_))⟩ <;> omega) | skip
 all_goals (try (refine Kx.mk ?_; refine owes_vals (qs := [pi 0, pi 0, pi 0]) (.inr rfl) hwf rfl rfl ?_ ?_ ?_ ?_ <;> (try simp (maxDischargeDepth := 20) [*])))
 refine T_lp (fun k F H' => ∃ i : Nat, k = m.jobs.length - i ∧ i ≤ m.jobs.length ∧ F 10 = pi i ∧ F 1 = .ptr H.next 1 0 0 ∧ H'.box H.next = some [DImage.row c m] ∧ H.next + 1 ≤ H'.next ∧ H.Ext H') (m.jobs.length) ?_ ?_
 exact ⟨0, by omega, by omega, by simp [*], by simp [*], by simp [*, DImage.row], (by first | omega | (simp; omega) | (simp; done)), (by repeat (first | exact AS.Ext.refl _ | assumption | refine AS.Ext.bump ?_ | refine AS.Ext.setBox (by first | omega | (simp; omega) | (simp; done)) ?_))⟩
 rintro k F H1 ⟨i, rfl, hi, g10, g1, hb0, hnx, hx⟩
 have nb0 : ¬ H.next = H1.next := by omega
 have nb2 : H.next ≤ H1.next := by omega
 have hcd := hC.job i
 have hcd2 : i < m.jobs.length → nameB (nth m.jobs i).name = true := fun e => (hcd e).1
 have hcd3 : i < m.jobs.length → ∀ k : Nat, k < i → ¬ (nth m.jobs k).name = (nth m.jobs i).name := fun e => (hcd e).2.2
 clear hcd
 rcases Nat.lt_or_ge i m.jobs.length with hlt | hge
 all_goals (try (have hcd2 := hcd2 (by assumption)))
 repeat' first
  | refine T_seq ?_
  | refine T_rgn ?_
  | refine T_cd ?_
  | refine T_sk ?_
  | refine T_rt ?_
  | refine T_block ?_
  | refine T_ex ?_
  | refine Kt_then ?_
  | refine Kt_block ?_
  | refine Kr_then ?_
  | refine Kr_block ?_
  | refine Kr_loop ?_
  | refine Ke_here ?_
  | refine Ke_then ?_
  | refine Ke_loop ?_
  | refine Ke_block ?_
  | refine Hid.mk ?_
  | refine T_dr (id := 29) (fun _ => True) [] (.free 0 (.free 1 (.free 2 (.free 3 (.free 4 (.free 5 (.free 6 (.free 7 (.free 8 (.free 9 (.free 10 .done))))))))))) mix ?_
  | refine T_dr (id := 38) (fun _ => True) [] (.free 0 (.free 1 (.free 2 (.free 3 (.free 4 (.free 5 (.free 6 (.free 7 (.free 8 (.free 9 (.free 10 (.free 11 (.free 12 (.free 13 (.free 14 (.free 15 (.free 16 .done))))))))))))))))) mix ?_
  | (refine callR (rIsName _ _ (by assumption)) ?_; rintro _ Hz ⟨rfl, hz⟩; subst Hz)
  | (refine askR (fun _ => _) (fun _ _ => rfl) (fun Hq _ => rIsName Hq _ (by assumption)) ?_)
  | (refine callR (rInstr2 _ c m hC i p (by assumption) (by assumption)) ?_; rintro _ Hz ⟨rfl, hz⟩; subst Hz)
  | (refine askR (fun _ => _) (fun _ _ => rfl) (fun Hq _ => rInstr2 Hq c m hC i p (by assumption) (by assumption)) ?_)
  | (refine callR (rJob2 _ c m hC i (by assumption)) ?_; rintro _ Hz ⟨rfl, hz⟩; subst Hz)
  | (refine askR (fun _ => _) (fun _ _ => rfl) (fun Hq _ => rJob2 Hq c m hC i (by assumption)) ?_)
  | (refine callR (rCell2 _ c m hC i (by assumption)) ?_; rintro _ Hz ⟨rfl, hz⟩; subst Hz)
  | (refine askR (fun _ => _) (fun _ _ => rfl) (fun Hq _ => rCell2 Hq c m hC i (by assumption)) ?_)
  | (refine callR (rCode2 _ c m hC i (by assumption)) ?_; rintro _ Hz ⟨rfl, hz⟩; subst Hz)
  | (refine askR (fun _ => _) (fun _ _ => rfl) (fun Hq _ => rCode2 Hq c m hC i (by assumption)) ?_)
  | refine Gs.mk (fun g => ?_) (fun g => ?_) <;> (try simp only [nm] at g) <;> try (exfalso; omega)
  | refine Gr.mk (fun g => ?_) (fun g => ?_) <;> (try simp only [nm] at g) <;> try (exfalso; omega)
  | (refine Run.of ?_; simp (maxSteps := 1000000) (disch := first | omega | assumption | (simp; done) | fail) [*, DImage.row, DFlat.row, DJob.row, idx23, idx24, idx45, wrap_i64, beq_bytes])
 all_goals (try (refine Kx.mk ?_; refine owes_vals (qs := [pi 0, pi 0, pi 0]) (.inr rfl) hwf rfl rfl ?_ ?_ ?_ ?_ <;> (try simp (maxDischargeDepth := 20) [*])))
 all_goals first | (refine Kt_loop ⟨_, ?_, i + 1, rfl, by omega, by simp [*], by simp [*], by simp [*], (by first | omega | (simp; omega) | (simp; done)), (by repeat (first | exact AS.Ext.refl _ | assumption | refine AS.Ext.bump ?_ | refine AS.Ext.setBox (by first | omega | (simp; omega) | (simp; done)) ?_))⟩ <;> omega) | skip
 all_goals (try (refine Kx.mk ?_; refine owes_vals (qs := [pi 0, pi 0, pi 0]) (.inr rfl) hwf rfl rfl ?_ ?_ ?_ ?_ <;> (try simp (maxDischargeDepth := 20) [*])))
 refine T_lp (fun k F H' => ∃ p : Nat, k = i - p ∧ p ≤ i ∧ F 12 = pi p ∧ F 10 = pi i ∧ F 11 = pb false ∧ F 1 = .ptr H.next 1 0 0 ∧ H'.box H.next = some [DImage.row c m] ∧ H.next + 1 ≤ H'.next ∧ H.Ext H') (i) ?_ ?_
 exact ⟨0, by omega, by omega, by simp [*], by simp [*], by simp [*], by simp [*], by simp [*, DImage.row], (by first | omega | (simp; omega) | (simp; done)), (by repeat (first | exact AS.Ext.refl _ | assumption | refine AS.Ext.bump ?_ | refine AS.Ext.setBox (by first | omega | (simp; omega) | (simp; done)) ?_))⟩
 rintro k F H1 ⟨p, rfl, hp, g12, g10, g11, g1, hb0, hnx, hx⟩
 have nb0 : ¬ H.next = H1.next := by omega
 have nb2 : H.next ≤ H1.next := by omega
 have hcd4 := hcd3 hlt p
 clear hcd3
 have hcd5 : p < i → p < m.jobs.length := fun e => by omega
 repeat' first
  | refine T_seq ?_
  | refine T_rgn ?_
  | refine T_cd ?_
  | refine T_sk ?_
  | refine T_rt ?_
  | refine T_block ?_
  | refine T_ex ?_
  | refine Kt_then ?_
  | refine Kt_block ?_
  | refine Kr_then ?_
  | refine Kr_block ?_
  | refine Kr_loop ?_
  | refine Ke_here ?_
  | refine Ke_then ?_
  | refine Ke_loop ?_
  | refine Ke_block ?_
  | refine Hid.mk ?_
  | refine T_dr (id := 29) (fun _ => True) [] (.free 0 (.free 1 (.free 2 (.free 3 (.free 4 (.free 5 (.free 6 (.free 7 (.free 8 (.free 9 (.free 10 .done))))))))))) mix ?_
  | refine T_dr (id := 38) (fun _ => True) [] (.free 0 (.free 1 (.free 2 (.free 3 (.free 4 (.free 5 (.free 6 (.free 7 (.free 8 (.free 9 (.free 10 (.free 11 (.free 12 (.free 13 (.free 14 (.free 15 (.free 16 .done))))))))))))))))) mix ?_
  | (refine callR (rIsName _ _ (by assumption)) ?_; rintro _ Hz ⟨rfl, hz⟩; subst Hz)
  | (refine askR (fun _ => _) (fun _ _ => rfl) (fun Hq _ => rIsName Hq _ (by assumption)) ?_)
  | (refine callR (rInstr2 _ c m hC i p (by assumption) (by assumption)) ?_; rintro _ Hz ⟨rfl, hz⟩; subst Hz)
  | (refine askR (fun _ => _) (fun _ _ => rfl) (fun Hq _ => rInstr2 Hq c m hC i p (by assumption) (by assumption)) ?_)
  | (refine callR (rJob2 _ c m hC i (by assumption)) ?_; rintro _ Hz ⟨rfl, hz⟩; subst Hz)
  | (refine askR (fun _ => _) (fun _ _ => rfl) (fun Hq _ => rJob2 Hq c m hC i (by assumption)) ?_)
  | (refine callR (rCell2 _ c m hC i (by assumption)) ?_; rintro _ Hz ⟨rfl, hz⟩; subst Hz)
  | (refine askR (fun _ => _) (fun _ _ => rfl) (fun Hq _ => rCell2 Hq c m hC i (by assumption)) ?_)
  | (refine callR (rCode2 _ c m hC i (by assumption)) ?_; rintro _ Hz ⟨rfl, hz⟩; subst Hz)
  | (refine askR (fun _ => _) (fun _ _ => rfl) (fun Hq _ => rCode2 Hq c m hC i (by assumption)) ?_)
  | refine Gs.mk (fun g => ?_) (fun g => ?_) <;> (try simp only [nm] at g) <;> try (exfalso; omega)
  | refine Gr.mk (fun g => ?_) (fun g => ?_) <;> (try simp only [nm] at g) <;> try (exfalso; omega)
  | (refine Run.of ?_; simp (maxSteps := 1000000) (disch := first | omega | assumption | (simp; done) | fail) [*, DImage.row, DFlat.row, DJob.row, idx23, idx24, idx45, wrap_i64, beq_bytes])
 all_goals (try (refine Kx.mk ?_; refine owes_vals (qs := [pi 0, pi 0, pi 0]) (.inr rfl) hwf rfl rfl ?_ ?_ ?_ ?_ <;> (try simp (maxDischargeDepth := 20) [*])))
 all_goals first | (refine Kt_loop ⟨_, ?_, p + 1, rfl, by omega, by simp [*], by simp [*], by simp [*], by simp [*], by simp [*], by omega, (by repeat (first | exact AS.Ext.refl _ | assumption | refine AS.Ext.bump ?_ | refine AS.Ext.setBox (by first | omega | (simp; omega) | (simp; done)) ?_))⟩ <;> omega) | (refine Kt_loop ⟨_, ?_, i + 1, rfl, by omega, by simp [*], by simp [*], by simp [*], (by first | omega | (simp; omega) | (simp; done)), (by repeat (first | exact AS.Ext.refl _ | assumption | refine AS.Ext.bump ?_ | refine AS.Ext.setBox (by first | omega | (simp; omega) | (simp; done)) ?_))⟩ <;> omega) | skip
 all_goals trace_state
structure Grew (id : Nat) (H H' : AS) : Prop where
 next : H.next ≤ H'.next
 color : H'.color = H.color
 box : ∀ j, j < H.next → j ≠ id → H'.box j = H.box j
 mp : ∀ j, H'.mp j = H.mp j
theorem Grew.refl {id : Nat} {H : AS} : Grew id H H := ⟨Nat.le_refl _, rfl, fun _ _ _ => rfl, fun _ => rfl⟩
theorem Grew.trans {id : Nat} {H H1 H2 : AS} (h : Grew id H H1) (h' : Grew id H1 H2) : Grew id H H2 :=
 ⟨Nat.le_trans h.next h'.next, h'.color.trans h.color, fun j a b => (h'.box j (Nat.lt_of_lt_of_le a h.next) b).trans (h.box j a b), fun j => (h'.mp j).trans (h.mp j)⟩
theorem Grew.set {id : Nat} {H H1 : AS} {r : List (List PV)} (h : Grew id H H1) : Grew id H (H1.setBox id r) :=
 ⟨h.next, h.color, fun j a b => by simp [b]; exact h.box j a b, fun j => h.mp j⟩
theorem Grew.set2 {id i : Nat} {H H1 : AS} {r : List (List PV)} (h : Grew id H H1) (hi : H.next ≤ i) : Grew id H (H1.setBox i r) :=
 ⟨h.next, h.color, fun j a b => by simp [show j ≠ i by omega]; exact h.box j a b, fun j => h.mp j⟩
theorem Grew.bump {id n : Nat} {H H1 : AS} (h : Grew id H H1) : Grew id H (H1.bump n) := ⟨Nat.le_trans h.next (by simp), h.color, h.box, h.mp⟩
theorem bytes5 : bytesOf Tryz.prog 5 = some 1 := by kernel_rfl
theorem zero5 : zeroOf Tryz.prog 5 = some [.val (.int .u8 0)] := by kernel_rfl
theorem appLit {H : AS} {id n j : Nat} {bs : List UInt8} {v : Int} {k : PV → AS → Prop} (hb : H.box id = some (bs.map brow)) (hn : n = bs.length) (hj : H.box j = some [[.val (.int .u8 v)]]) (hv : 0 ≤ v ∧ v < 256) (hs : bs.length + 1 ≤ 2 ^ 46) (hk : Run (k (.msl id (n + 1) 1) (H.setBox id ((bs ++ [byteOf v]).map brow)))) : @appendK Tryz.prog H 28 28 (.msl id n 1) (.msl j 1 1) ⟨k⟩ := by
 subst hn
 have e : brow (byteOf v) = [.val (.int .u8 v)] := by
  unfold brow; rw [byteOf_toNat]; rw [Int.emod_eq_of_lt hv.1 hv.2]
 refine appR (.inl ?_)
 unfold aappendX
 simp only [under28, size5, zero5, bytes5, srcOfT, srcOf, hj, fzR]
 have hf : frzR H [[.val (.int .u8 v)]] = ([[.val (.int .u8 v)]], H) := frzR_id (by simp)
 simp [hf, hb, List.map_append, e]
 rw [show (List.map brow bs ++ [[.val (.int .u8 v)]]) = (bs ++ [byteOf v]).map brow by simp [e]]
 exact ⟨.inl (by simp; omega), hk⟩
theorem appLit2 {H : AS} {id n j : Nat} {bs : List UInt8} {v u : Int} {k : PV → AS → Prop} (hb : H.box id = some (bs.map brow)) (hn : n = bs.length) (hj : H.box j = some [[.val (.int .u8 v)], [.val (.int .u8 u)]]) (hv : 0 ≤ v ∧ v < 256) (hu : 0 ≤ u ∧ u < 256) (hs : bs.length + 2 ≤ 2 ^ 46) (hk : Run (k (.msl id (n + 2) 1) (H.setBox id ((bs ++ [byteOf v, byteOf u]).map brow)))) : @appendK Tryz.prog H 28 28 (.msl id n 1) (.msl j 2 1) ⟨k⟩ := by
 subst hn
 have e : brow (byteOf v) = [.val (.int .u8 v)] := by
  unfold brow; rw [byteOf_toNat]; rw [Int.emod_eq_of_lt hv.1 hv.2]
 have e2 : brow (byteOf u) = [.val (.int .u8 u)] := by
  unfold brow; rw [byteOf_toNat]; rw [Int.emod_eq_of_lt hu.1 hu.2]
 refine appR (.inl ?_)
 unfold aappendX
 simp only [under28, size5, zero5, bytes5, srcOfT, srcOf, hj, fzR]
 have hf : frzR H [[.val (.int .u8 v)], [.val (.int .u8 u)]] = ([[.val (.int .u8 v)], [.val (.int .u8 u)]], H) := frzR_id (by simp)
 simp [hf, hb, List.map_append, e, e2]
 rw [show (List.map brow bs ++ [[.val (.int .u8 v)], [.val (.int .u8 u)]]) = (bs ++ [byteOf v, byteOf u]).map brow by simp [e, e2]]
 exact ⟨.inl (by simp; omega), hk⟩
theorem appStr {H : AS} {id n : Nat} {bs : List UInt8} {s : ByteArray} {k : PV → AS → Prop} (hb : H.box id = some (bs.map brow)) (hn : n = bs.length) (hs : bs.length + s.size ≤ 2 ^ 46) (hk : Run (k (.msl id (n + s.size) 1) (H.setBox id ((bs ++ s.data.toList).map brow)))) : @appendK Tryz.prog H 28 9 (.msl id n 1) (.val (.string s)) ⟨k⟩ := by
 subst hn
 have hl : s.data.toList.length = s.size := by simp
 refine appR (.inl ?_)
 unfold aappendX
 simp only [under28, under9, size5, zero5, bytes5, srcOfT_string, fzR]
 have hf : frzR H (s.data.toList.map brow) = (s.data.toList.map brow, H) := frzR_id (by simp [brow])
 simp only [if_true, hf, hb]
 refine ⟨by simp, ?_⟩
 simp only [List.length_map, and_self, true_and, hl]
 refine ⟨.inl (by omega), ?_⟩
 rw [← List.map_append]; exact hk
theorem appL1 {H : AS} {id n j m : Nat} {bs : List UInt8} {v : Int} {k : PV → AS → Prop} (hb : H.box id = some (bs.map brow)) (hne : ¬ id = j) (hn : n = bs.length) (hv : 0 ≤ v ∧ v < 256) (hs : bs.length + 1 ≤ 2 ^ 46) (hk : Run (k (.msl id (n + 1) 1) (((H.setBox j [[.val (.int .u8 v)]]).bump m).setBox id ((bs ++ [byteOf v]).map brow)))) : @appendK Tryz.prog ((H.setBox j [[.val (.int .u8 v)]]).bump m) 28 28 (.msl id n 1) (.msl j 1 1) ⟨k⟩ :=
 appLit (by simp [hne, hb]) hn (by simp) hv hs hk
theorem appL2 {H : AS} {id n j m : Nat} {bs : List UInt8} {v u : Int} {k : PV → AS → Prop} (hb : H.box id = some (bs.map brow)) (hne : ¬ id = j) (hn : n = bs.length) (hv : 0 ≤ v ∧ v < 256) (hu : 0 ≤ u ∧ u < 256) (hs : bs.length + 2 ≤ 2 ^ 46) (hk : Run (k (.msl id (n + 2) 1) (((H.setBox j [[.val (.int .u8 v)], [.val (.int .u8 u)]]).bump m).setBox id ((bs ++ [byteOf v, byteOf u]).map brow)))) : @appendK Tryz.prog ((H.setBox j [[.val (.int .u8 v)], [.val (.int .u8 u)]]).bump m) 28 28 (.msl id n 1) (.msl j 2 1) ⟨k⟩ :=
 appLit2 (by simp [hne, hb]) hn (by simp) hv hu hs hk
theorem encNum_at (n : Int) (i : Nat) (h : i < 8) : byteOf (IntKind.u64.wrap n / 256 ^ i % 256) = byteOf (n.fdiv (2 ^ (8 * i))) := by
 have e : (IntKind.u64.wrap n / 256 ^ i % 256) % 256 = n.fdiv (2 ^ (8 * i)) % 256 := by
  rw [wu64]
  have hc : i = 0 ∨ i = 1 ∨ i = 2 ∨ i = 3 ∨ i = 4 ∨ i = 5 ∨ i = 6 ∨ i = 7 := by omega
  rcases hc with rfl | rfl | rfl | rfl | rfl | rfl | rfl | rfl <;> (rw [Int.fdiv_eq_ediv_of_nonneg _ (by decide)]; simp only [Int.reducePow, Nat.reduceMul]; omega)
 unfold byteOf; rw [e]
theorem encNum_step {bs : List UInt8} {n : Int} {i : Nat} (h : i < 8) : (bs ++ (encNum n).take i) ++ [byteOf (IntKind.u64.wrap n / 256 ^ i % 256)] = bs ++ (encNum n).take (i + 1) := by
 rw [encNum_take h, encNum_at n i h, List.append_assoc]
theorem u64quo (n : Int) (i : Nat) (h : 0 ≤ IntKind.u64.wrap n / 256 ^ i) : IntKind.u64.wrap ((IntKind.u64.wrap n / 256 ^ i).tdiv 256) = IntKind.u64.wrap n / 256 ^ (i + 1) := by
 rw [Int.tdiv_eq_ediv_of_nonneg h, Int.ediv_ediv_of_nonneg (Int.pow_nonneg (by decide)), show (256 : Int) ^ i * 256 = 256 ^ (i + 1) from (Int.pow_succ 256 i).symm]
 rw [wu64]
 have h1 : 0 ≤ IntKind.u64.wrap n / 256 ^ (i + 1) := Int.ediv_nonneg (by rw [wu64]; omega) (Int.pow_nonneg (by decide))
 have h2 : IntKind.u64.wrap n / 256 ^ (i + 1) ≤ IntKind.u64.wrap n := Int.ediv_le_self _ (by rw [wu64]; omega)
 have h3 : IntKind.u64.wrap n < 18446744073709551616 := by rw [wu64]; omega
 rw [wu64] at *
 omega
theorem u8mod (x : Int) (h : 0 ≤ x) : IntKind.u8.wrap (x.tmod 256) = x % 256 := by
 rw [Int.tmod_eq_emod_of_nonneg h]
 show x % 256 % 256 = _
 omega
theorem rNum (H : AS) (id : Nat) (bs : List UInt8) (n : Int) (hb : H.box id = some (bs.map brow)) (hid : id < H.next) (hs : bs.length + 8 ≤ 2 ^ 45) : ACalls Tryz.prog 72 [.msl id bs.length 1, pi n] H fun q H' => q = .msl id (bs ++ encNum n).length 1 ∧ H'.box id = some ((bs ++ encNum n).map brow) ∧ Grew id H H' := by
 refine ACalls_open Tryz.func72 rfl (by kernel_rfl) (by simp) fun hwf hbel => ?_
 repeat' first
  | refine T_seq ?_
  | refine T_rgn ?_
  | refine T_cd ?_
  | refine T_sk ?_
  | refine T_rt ?_
  | refine T_block ?_
  | refine T_ex ?_
  | refine Kt_then ?_
  | refine Kt_block ?_
  | refine Kr_then ?_
  | refine Kr_block ?_
  | refine Ke_here ?_
  | refine Ke_then ?_
  | refine Hid.mk ?_
  | (refine eitherK.raw ?_; simp)
  | (refine appL1 hb1 nb1 (by simp [hl]) (by omega) (by simp [hl]; omega) ?_)
  | refine Gs.mk (fun g => ?_) (fun g => ?_) <;> (try simp only [nm] at g) <;> try (exfalso; omega)
  | refine Gr.mk (fun g => ?_) (fun g => ?_) <;> (try simp only [nm] at g) <;> try (exfalso; omega)
  | (refine Run.of ?_; simp (maxSteps := 1000000) (disch := first | omega | assumption | (simp; done) | fail) [*, wrap_i64])
 all_goals (try (refine Kx.mk ?_; obtain rfl : i = 8 := (by omega); rw [List.take_of_length_le (by simp [encNum_length])] at hb1; exact owesO_one (.inr rfl) rfl ⟨by simp [encNum_length], hb1, hg⟩))
 refine T_lp (fun k F H' => ∃ i : Nat, k = 8 - i ∧ i ≤ 8 ∧ F 0 = .msl id (bs.length + i) 1 ∧ F 5 = .val (.int .u64 (IntKind.u64.wrap n / 256 ^ i)) ∧ F 6 = pi i ∧ H'.box id = some ((bs ++ (encNum n).take i).map brow) ∧ Grew id H H') (8) ?_ ?_
 exact ⟨0, by omega, by omega, by simp, by simp, by simp, by simp [hb], .refl⟩
 rintro k F H1 ⟨i, rfl, hi, g0, g5, g6, hb1, hg⟩
 have hni := hg.next
 have nb1 : ¬ id = H1.next := by omega
 have nb2 : ¬ H1.next = id := by omega
 have hx0 : 0 ≤ IntKind.u64.wrap n / 256 ^ i := Int.ediv_nonneg (by rw [wu64]; omega) (Int.pow_nonneg (by decide))
 have hx1 := u8mod _ hx0
 have hx2 : IntKind.u64.wrap ((IntKind.u64.wrap n / 256 ^ i).tdiv 256) = IntKind.u64.wrap n / 256 ^ (i + 1) := u64quo n i hx0
 have hl : ((encNum n).take i).length = i := by simp [encNum_length]; omega
 repeat' first
  | refine T_seq ?_
  | refine T_rgn ?_
  | refine T_cd ?_
  | refine T_sk ?_
  | refine T_rt ?_
  | refine T_block ?_
  | refine T_ex ?_
  | refine Kt_then ?_
  | refine Kt_block ?_
  | refine Kr_then ?_
  | refine Kr_block ?_
  | refine Kr_loop ?_
  | refine Ke_here ?_
  | refine Ke_then ?_
  | refine Ke_loop ?_
  | refine Ke_block ?_
  | refine Hid.mk ?_
  | (refine eitherK.raw ?_; simp)
  | (refine appL1 hb1 nb1 (by simp [hl]) (by omega) (by simp [hl]; omega) ?_)
  | refine Gs.mk (fun g => ?_) (fun g => ?_) <;> (try simp only [nm] at g) <;> try (exfalso; omega)
  | refine Gr.mk (fun g => ?_) (fun g => ?_) <;> (try simp only [nm] at g) <;> try (exfalso; omega)
  | (refine Run.of ?_; simp (maxSteps := 1000000) (disch := first | omega | assumption | (simp; done) | fail) [*, wrap_i64])
 all_goals (try (refine Kx.mk ?_; obtain rfl : i = 8 := (by omega); rw [List.take_of_length_le (by simp [encNum_length])] at hb1; exact owesO_one (.inr rfl) rfl ⟨by simp [encNum_length], hb1, hg⟩))
 all_goals first | (refine Kt_loop ⟨_, ?_, i + 1, rfl, by omega, by simp [*]; try omega, by simp [*], by simp [*], by rw [← encNum_step (by omega)]; simp [*], (hg.set2 (by omega)).bump.set⟩ <;> omega) | skip
 all_goals trace_state
structure St (H0 : AS) (id : Nat) (bs : List UInt8) (K : List (Nat × List (List PV))) (H : AS) : Prop where
 out : H.box id = some (bs.map brow)
 lt : id < H.next
 grew : Grew id H0 H
 keep : ∀ x ∈ K, x.1 < H.next ∧ x.1 ≠ id ∧ H.box x.1 = some x.2
section
variable {H0 H H' : AS} {id n : Nat} {bs bs' : List UInt8} {K : List (Nat × List (List PV))}
theorem St.step (h : St H0 id bs K H) (hg : Grew id H H') (hb : H'.box id = some (bs'.map brow)) : St H0 id bs' K H' :=
 ⟨hb, Nat.lt_of_lt_of_le h.lt hg.next, h.grew.trans hg, fun x hx => by
  obtain ⟨a, b, c⟩ := h.keep x hx
  exact ⟨Nat.lt_of_lt_of_le a hg.next, b, (hg.box _ a b).trans c⟩⟩
theorem St.new {row : List (List PV)} (h : St H0 id bs K H) : St H0 id bs ((H.next, row) :: K) ((H.setBox H.next row).bump 1) := by
 have hl := h.lt
 refine ⟨by simp [h.out, show ¬ id = H.next by omega], by simp; omega, (h.grew.set2 h.grew.next).bump, fun x hx => ?_⟩
 rcases List.mem_cons.1 hx with rfl | hx
 exact ⟨by simp, by simp; omega, by simp⟩
 obtain ⟨a, b, c⟩ := h.keep x hx
 exact ⟨by simp; omega, b, by simp [c, show ¬ x.1 = H.next by omega]⟩
theorem St.new2 {row z : List (List PV)} (h : St H0 id bs K H) : St H0 id bs ((H.next, row) :: K) (((H.setBox H.next z).bump 1).setBox H.next row) := by
 have hl := h.lt
 refine ⟨by simp [h.out, show ¬ id = H.next by omega], by simp; omega, ((h.grew.set2 h.grew.next).bump).set2 h.grew.next, fun x hx => ?_⟩
 rcases List.mem_cons.1 hx with rfl | hx
 exact ⟨by simp, by simp; omega, by simp⟩
 obtain ⟨a, b, c⟩ := h.keep x hx
 exact ⟨by simp; omega, b, by simp [c, show ¬ x.1 = H.next by omega]⟩
theorem St.less {K2 : List (Nat × List (List PV))} (h : St H0 id bs K H) (hk : ∀ x ∈ K2, x ∈ K) : St H0 id bs K2 H := ⟨h.out, h.lt, h.grew, fun x hx => h.keep x (hk x hx)⟩
theorem St.facts (h : St H0 id bs K H) : ¬ id = H.next ∧ ∀ x ∈ K, ¬ x.1 = H.next ∧ ¬ x.1 = id ∧ H.box x.1 = some x.2 := by
 have := h.lt
 exact ⟨by omega, fun x hx => by obtain ⟨a, b, c⟩ := h.keep x hx; exact ⟨by omega, b, c⟩⟩
theorem St.start (hb : H.box id = some (bs.map brow)) (hid : id < H.next) : St H id bs [] H := ⟨hb, hid, .refl, fun x hx => by cases hx⟩
theorem St.call {k : PV → AS → Prop} {f : FuncId} {args : List PV} {new : List UInt8} {m : Nat} (h : St H0 id bs K H) (hc : ACalls Tryz.prog f args H fun q H' => q = .msl id m 1 ∧ H'.box id = some ((bs ++ new).map brow) ∧ Grew id H H') (hk : ∀ H', St H0 id (bs ++ new) K H' → Run (k (.msl id m 1) H')) : @callK Tryz.prog f args H ⟨k⟩ := by
 refine callR hc ?_
 rintro _ H' ⟨rfl, hb, hg⟩
 exact hk H' (h.step hg hb)
theorem St.lit1 {k : PV → AS → Prop} {v : Int} (h : St H0 id bs K H) (hn : n = bs.length) (hv : 0 ≤ v ∧ v < 256) (hs : bs.length + 1 ≤ 2 ^ 46) (hk : ∀ H', St H0 id (bs ++ [byteOf v]) K H' → Run (k (.msl id (n + 1) 1) H')) : @appendK Tryz.prog ((H.setBox H.next [[.val (.int .u8 v)]]).bump 1) 28 28 (.msl id n 1) (.msl H.next 1 1) ⟨k⟩ := by
 have hl := h.lt
 exact appL1 h.out (by omega) hn hv hs (hk _ (h.step ((Grew.refl.set2 (Nat.le_refl _)).bump.set) (boxSelf _ _ _)))
theorem St.lit2 {k : PV → AS → Prop} {v u : Int} (h : St H0 id bs K H) (hn : n = bs.length) (hv : 0 ≤ v ∧ v < 256) (hu : 0 ≤ u ∧ u < 256) (hs : bs.length + 2 ≤ 2 ^ 46) (hk : ∀ H', St H0 id (bs ++ [byteOf v, byteOf u]) K H' → Run (k (.msl id (n + 2) 1) H')) : @appendK Tryz.prog ((H.setBox H.next [[.val (.int .u8 v)], [.val (.int .u8 u)]]).bump 1) 28 28 (.msl id n 1) (.msl H.next 2 1) ⟨k⟩ := by
 have hl := h.lt
 exact appL2 h.out (by omega) hn hv hu hs (hk _ (h.step ((Grew.refl.set2 (Nat.le_refl _)).bump.set) (boxSelf _ _ _)))
theorem St.str {k : PV → AS → Prop} {s : ByteArray} (h : St H0 id bs K H) (hn : n = bs.length) (hs : bs.length + s.size ≤ 2 ^ 46) (hk : ∀ H', St H0 id (bs ++ s.data.toList) K H' → Run (k (.msl id (n + s.size) 1) H')) : @appendK Tryz.prog H 28 9 (.msl id n 1) (.val (.string s)) ⟨k⟩ :=
 appStr h.out hn hs (hk _ (h.step (Grew.refl.set) (boxSelf _ _ _)))
theorem rNumS (x : Int) (h : St H0 id bs K H) (hn : n = bs.length) (hs : bs.length + 8 ≤ 2 ^ 45) : ACalls Tryz.prog 72 [.msl id n 1, pi x] H fun q H' => q = .msl id (n + 8) 1 ∧ H'.box id = some ((bs ++ encNum x).map brow) ∧ Grew id H H' := by
 have := rNum H id bs x h.out h.lt hs
 rw [show (bs ++ encNum x).length = n + 8 by simp [encNum_length, hn], ← hn] at this
 exact this
end
theorem byte_wrap (n : Int) : byteOf (IntKind.u8.wrap n) = byteOf n := by
 unfold byteOf; rw [show IntKind.u8.wrap n = n % 256 from rfl, Int.emod_emod]
theorem u8_range (n : Int) : 0 ≤ IntKind.u8.wrap n ∧ IntKind.u8.wrap n < 256 := by
 rw [show IntKind.u8.wrap n = n % 256 from rfl]; omega
theorem rBit (H : AS) (b : Bool) : ACalls Tryz.prog 73 [pb b] H fun q H' => q = .val (.int .u8 (if b = true then 1 else 0)) ∧ H' = H := by
 refine ACalls_intro Tryz.func73 rfl (by kernel_rfl) (by simp) fun hwf hbel => ?_
 repeat' first
  | refine T_seq ?_
  | refine T_rgn ?_
  | refine T_cd ?_
  | refine T_sk ?_
  | refine T_rt ?_
  | refine T_block ?_
  | refine T_ex ?_
  | refine Kt_then ?_
  | refine Kt_block ?_
  | refine Kr_then ?_
  | refine Kr_block ?_
  | refine Ke_here ?_
  | refine Ke_then ?_
  | refine Hid.mk ?_
  | refine Gs.mk (fun g => ?_) (fun g => ?_) <;> (try simp only [nm] at g)
  | refine Gr.mk (fun g => ?_) (fun g => ?_) <;> (try simp only [nm] at g)
  | (refine Run.of ?_; simp (maxSteps := 1000000) [*])
 all_goals (refine Kx.mk ?_; refine owes_one (.inr rfl) hwf rfl ?_ ?_ ?_ ?_)
 all_goals (try simp (maxDischargeDepth := 20) [*])
 all_goals trace_state
theorem rText (H : AS) (id n : Nat) (bs : List UInt8) (s : ByteArray) (hs : bs.length + 8 + s.size ≤ 2 ^ 44) (hb : H.box id = some (bs.map brow)) (hid : id < H.next) (hn : n = bs.length) : ACalls Tryz.prog 71 [.msl id n 1, ps s] H fun q H' => q = .msl id (n + (8 + s.size)) 1 ∧ H'.box id = some ((bs ++ encText s).map brow) ∧ Grew id H H' := by
 refine ACalls_open Tryz.func71 rfl (by kernel_rfl) (by simp) fun hwf hbel => ?_
 have st := St.start hb hid
 have hv := st.facts
 try simp only [List.mem_cons, List.not_mem_nil, forall_eq_or_imp, false_implies, implies_true, and_true, or_false, forall_eq] at hv
 repeat' first
  | refine T_seq ?_
  | refine T_rgn ?_
  | refine T_cd ?_
  | refine T_sk ?_
  | refine T_rt ?_
  | refine T_block ?_
  | refine T_ex ?_
  | refine Kt_then ?_
  | refine Kt_block ?_
  | refine Kr_then ?_
  | refine Kr_block ?_
  | refine Ke_here ?_
  | refine Ke_then ?_
  | refine Hid.mk ?_
  | (refine St.call (by first | exact st | exact st.new | exact st.new2) (rNumS _ (by first | exact st | exact st.new | exact st.new2) (by first | omega | (simp [encNum_length, encText_length, encVal_length, encNums_length]; done) | (simp [encNum_length, encText_length, encVal_length, encNums_length]; omega)) (by first | omega | (simp [encNum_length, encText_length, encVal_length, encNums_length]; done) | (simp [encNum_length, encText_length, encVal_length, encNums_length]; omega))) ?_; rintro H1 st; have hv := st.facts; try simp only [List.mem_cons, List.not_mem_nil, forall_eq_or_imp, false_implies, implies_true, and_true, or_false, forall_eq] at hv)
  | (refine St.lit1 (by first | exact st | exact st.new | exact st.new2) (by first | omega | (simp [encNum_length, encText_length, encVal_length, encNums_length]; done) | (simp [encNum_length, encText_length, encVal_length, encNums_length]; omega)) (by first | omega | exact u8_range _) (by first | omega | (simp [encNum_length, encText_length, encVal_length, encNums_length]; done) | (simp [encNum_length, encText_length, encVal_length, encNums_length]; omega)) ?_; rintro H1 st; have hv := st.facts; try simp only [List.mem_cons, List.not_mem_nil, forall_eq_or_imp, false_implies, implies_true, and_true, or_false, forall_eq] at hv)
  | (refine St.lit2 (by first | exact st | exact st.new | exact st.new2) (by first | omega | (simp [encNum_length, encText_length, encVal_length, encNums_length]; done) | (simp [encNum_length, encText_length, encVal_length, encNums_length]; omega)) (by first | omega | exact u8_range _) (by first | omega | exact u8_range _ | (split <;> omega)) (by first | omega | (simp [encNum_length, encText_length, encVal_length, encNums_length]; done) | (simp [encNum_length, encText_length, encVal_length, encNums_length]; omega)) ?_; rintro H1 st; have hv := st.facts; try simp only [List.mem_cons, List.not_mem_nil, forall_eq_or_imp, false_implies, implies_true, and_true, or_false, forall_eq] at hv)
  | (refine St.str st (by first | omega | (simp [encNum_length, encText_length, encVal_length, encNums_length]; done) | (simp [encNum_length, encText_length, encVal_length, encNums_length]; omega)) (by first | omega | (simp [encNum_length, encText_length, encVal_length, encNums_length]; done) | (simp [encNum_length, encText_length, encVal_length, encNums_length]; omega)) ?_; rintro H1 st; have hv := st.facts; try simp only [List.mem_cons, List.not_mem_nil, forall_eq_or_imp, false_implies, implies_true, and_true, or_false, forall_eq] at hv)
  | (refine eitherK.raw ?_; simp)
  | refine Gs.mk (fun g => ?_) (fun g => ?_) <;> (try simp only [nm] at g) <;> try (exfalso; omega)
  | refine Gr.mk (fun g => ?_) (fun g => ?_) <;> (try simp only [nm] at g) <;> try (exfalso; omega)
  | (refine Run.of ?_; simp (maxSteps := 1000000) (disch := first | omega | assumption | (simp; done) | fail) [*, wrap_i64])
 all_goals (refine Kx.mk ?_; refine owesO_one (.inr rfl) rfl ⟨?_, ?_, ?_⟩ <;> first | (simp [*]; done) | (simp [*]; omega) | (simp [encNum_length, encText_length, encVal_length, encNums_length]; omega) | (have := st.out; simpa [encText] using this) | exact st.grew)
theorem rTextS {H0 H : AS} {id n : Nat} {bs : List UInt8} {K : List (Nat × List (List PV))}  (s : ByteArray) (hs : bs.length + 8 + s.size ≤ 2 ^ 44) (h : St H0 id bs K H) (hn : n = bs.length) : ACalls Tryz.prog 71 [.msl id n 1, ps s] H fun q H' => q = .msl id (n + (8 + s.size)) 1 ∧ H'.box id = some ((bs ++ encText s).map brow) ∧ Grew id H H' := rText H id n bs s hs h.out h.lt hn
theorem rValue (H : AS) (id n : Nat) (bs : List UInt8) (v : DVal) (hs : bs.length + 17 + v.text.size ≤ 2 ^ 44) (hk : 0 ≤ v.kind ∧ v.kind < 256) (hb : H.box id = some (bs.map brow)) (hid : id < H.next) (hn : n = bs.length) : ACalls Tryz.prog 74 [.msl id n 1, .agg v.row] H fun q H' => q = .msl id (n + (17 + v.text.size)) 1 ∧ H'.box id = some ((bs ++ encVal v).map brow) ∧ Grew id H H' := by
 refine ACalls_open Tryz.func74 rfl (by kernel_rfl) (by simp) fun hwf hbel => ?_
 have st := St.start hb hid
 have hv := st.facts
 try simp only [List.mem_cons, List.not_mem_nil, forall_eq_or_imp, false_implies, implies_true, and_true, or_false, forall_eq] at hv
 have hk8 : IntKind.i64.wrap v.kind = v.kind := wrap_i64 (by omega) (by omega)
 repeat' first
  | refine T_seq ?_
  | refine T_rgn ?_
  | refine T_cd ?_
  | refine T_sk ?_
  | refine T_rt ?_
  | refine T_block ?_
  | refine T_ex ?_
  | refine Kt_then ?_
  | refine Kt_block ?_
  | refine Kr_then ?_
  | refine Kr_block ?_
  | refine Ke_here ?_
  | refine Ke_then ?_
  | refine Hid.mk ?_
  | (refine St.call (by first | exact st | exact st.new | exact st.new2) (rTextS _ (by first | omega | (simp [encNum_length, encText_length, encVal_length, encNums_length]; done) | (simp [encNum_length, encText_length, encVal_length, encNums_length]; omega)) (by first | exact st | exact st.new | exact st.new2) (by first | omega | (simp [encNum_length, encText_length, encVal_length, encNums_length]; done) | (simp [encNum_length, encText_length, encVal_length, encNums_length]; omega))) ?_; rintro H1 st; have hv := st.facts; try simp only [List.mem_cons, List.not_mem_nil, forall_eq_or_imp, false_implies, implies_true, and_true, or_false, forall_eq] at hv)
  | (refine St.call (by first | exact st | exact st.new | exact st.new2) (rNumS _ (by first | exact st | exact st.new | exact st.new2) (by first | omega | (simp [encNum_length, encText_length, encVal_length, encNums_length]; done) | (simp [encNum_length, encText_length, encVal_length, encNums_length]; omega)) (by first | omega | (simp [encNum_length, encText_length, encVal_length, encNums_length]; done) | (simp [encNum_length, encText_length, encVal_length, encNums_length]; omega))) ?_; rintro H1 st; have hv := st.facts; try simp only [List.mem_cons, List.not_mem_nil, forall_eq_or_imp, false_implies, implies_true, and_true, or_false, forall_eq] at hv)
  | (refine St.lit1 (by first | exact st | exact st.new | exact st.new2) (by first | omega | (simp [encNum_length, encText_length, encVal_length, encNums_length]; done) | (simp [encNum_length, encText_length, encVal_length, encNums_length]; omega)) (by first | omega | exact u8_range _) (by first | omega | (simp [encNum_length, encText_length, encVal_length, encNums_length]; done) | (simp [encNum_length, encText_length, encVal_length, encNums_length]; omega)) ?_; rintro H1 st; have hv := st.facts; try simp only [List.mem_cons, List.not_mem_nil, forall_eq_or_imp, false_implies, implies_true, and_true, or_false, forall_eq] at hv)
  | (refine St.lit2 (by first | exact st | exact st.new | exact st.new2) (by first | omega | (simp [encNum_length, encText_length, encVal_length, encNums_length]; done) | (simp [encNum_length, encText_length, encVal_length, encNums_length]; omega)) (by first | omega | exact u8_range _) (by first | omega | exact u8_range _ | (split <;> omega)) (by first | omega | (simp [encNum_length, encText_length, encVal_length, encNums_length]; done) | (simp [encNum_length, encText_length, encVal_length, encNums_length]; omega)) ?_; rintro H1 st; have hv := st.facts; try simp only [List.mem_cons, List.not_mem_nil, forall_eq_or_imp, false_implies, implies_true, and_true, or_false, forall_eq] at hv)
  | (refine St.str st (by first | omega | (simp [encNum_length, encText_length, encVal_length, encNums_length]; done) | (simp [encNum_length, encText_length, encVal_length, encNums_length]; omega)) (by first | omega | (simp [encNum_length, encText_length, encVal_length, encNums_length]; done) | (simp [encNum_length, encText_length, encVal_length, encNums_length]; omega)) ?_; rintro H1 st; have hv := st.facts; try simp only [List.mem_cons, List.not_mem_nil, forall_eq_or_imp, false_implies, implies_true, and_true, or_false, forall_eq] at hv)
  | (refine eitherK.raw ?_; simp)
  | refine Gs.mk (fun g => ?_) (fun g => ?_) <;> (try simp only [nm] at g) <;> try (exfalso; omega)
  | refine Gr.mk (fun g => ?_) (fun g => ?_) <;> (try simp only [nm] at g) <;> try (exfalso; omega)
  | (refine Run.of ?_; simp (maxSteps := 1000000) (disch := first | omega | assumption | (simp; done) | fail) [*, wrap_i64, DVal.row])
 all_goals (refine Kx.mk ?_; refine owesO_one (.inr rfl) rfl ⟨?_, ?_, ?_⟩ <;> first | (simp [*]; done) | (simp [*]; omega) | (simp [encNum_length, encText_length, encVal_length, encNums_length]; omega) | (have := st.out; simpa [encVal, hk8] using this) | exact st.grew)
theorem rValueS {H0 H : AS} {id n : Nat} {bs : List UInt8} {K : List (Nat × List (List PV))}  (v : DVal) (hs : bs.length + 17 + v.text.size ≤ 2 ^ 44) (hk : 0 ≤ v.kind ∧ v.kind < 256) (h : St H0 id bs K H) (hn : n = bs.length) : ACalls Tryz.prog 74 [.msl id n 1, .agg v.row] H fun q H' => q = .msl id (n + (17 + v.text.size)) 1 ∧ H'.box id = some ((bs ++ encVal v).map brow) ∧ Grew id H H' := rValue H id n bs v hs hk h.out h.lt hn
theorem rNums (H : AS) (id n : Nat) (bs : List UInt8) (c : Nat) (ns : List Int) (hs : bs.length + 8 + 8 * ns.length ≤ 2 ^ 44) (hb : H.box id = some (bs.map brow)) (hid : id < H.next) (hn : n = bs.length) : ACalls Tryz.prog 76 [.msl id n 1, PV.sl c 1 (ns.map irow)] H fun q H' => q = .msl id (n + (8 + 8 * ns.length)) 1 ∧ H'.box id = some ((bs ++ (encNum ns.length ++ encNums ns)).map brow) ∧ Grew id H H' := by
 refine ACalls_open Tryz.func76 rfl (by kernel_rfl) (by simp) fun hwf hbel => ?_
 have st := St.start hb hid
 have hv := st.facts
 try simp only [List.mem_cons, List.not_mem_nil, forall_eq_or_imp, false_implies, implies_true, and_true, or_false, forall_eq] at hv
 repeat' first
  | refine T_seq ?_
  | refine T_rgn ?_
  | refine T_cd ?_
  | refine T_sk ?_
  | refine T_rt ?_
  | refine T_block ?_
  | refine T_ex ?_
  | refine Kt_then ?_
  | refine Kt_block ?_
  | refine Kr_then ?_
  | refine Kr_block ?_
  | refine Ke_here ?_
  | refine Ke_then ?_
  | refine Hid.mk ?_
  | (refine St.call (by first | exact st | exact st.new | exact st.new2) (rNumS _ (by first | exact st | exact st.new | exact st.new2) (by first | omega | (simp [encNum_length, encText_length, encVal_length, encNums_length, hn1]; done) | (simp [encNum_length, encText_length, encVal_length, encNums_length, hn1]; omega)) (by first | omega | (simp [encNum_length, encText_length, encVal_length, encNums_length, hn1]; done) | (simp [encNum_length, encText_length, encVal_length, encNums_length, hn1]; omega))) ?_; rintro H1 st; have hv := st.facts; try simp only [List.mem_cons, List.not_mem_nil, forall_eq_or_imp, false_implies, implies_true, and_true, or_false, forall_eq] at hv)
  | (refine St.lit1 (by first | exact st | exact st.new | exact st.new2) (by first | omega | (simp [encNum_length, encText_length, encVal_length, encNums_length]; done) | (simp [encNum_length, encText_length, encVal_length, encNums_length]; omega)) (by first | omega | exact u8_range _) (by first | omega | (simp [encNum_length, encText_length, encVal_length, encNums_length]; done) | (simp [encNum_length, encText_length, encVal_length, encNums_length]; omega)) ?_; rintro H1 st; have hv := st.facts; try simp only [List.mem_cons, List.not_mem_nil, forall_eq_or_imp, false_implies, implies_true, and_true, or_false, forall_eq] at hv)
  | (refine St.lit2 (by first | exact st | exact st.new | exact st.new2) (by first | omega | (simp [encNum_length, encText_length, encVal_length, encNums_length]; done) | (simp [encNum_length, encText_length, encVal_length, encNums_length]; omega)) (by first | omega | exact u8_range _) (by first | omega | exact u8_range _ | (split <;> omega)) (by first | omega | (simp [encNum_length, encText_length, encVal_length, encNums_length]; done) | (simp [encNum_length, encText_length, encVal_length, encNums_length]; omega)) ?_; rintro H1 st; have hv := st.facts; try simp only [List.mem_cons, List.not_mem_nil, forall_eq_or_imp, false_implies, implies_true, and_true, or_false, forall_eq] at hv)
  | (refine St.str st (by first | omega | (simp [encNum_length, encText_length, encVal_length, encNums_length]; done) | (simp [encNum_length, encText_length, encVal_length, encNums_length]; omega)) (by first | omega | (simp [encNum_length, encText_length, encVal_length, encNums_length]; done) | (simp [encNum_length, encText_length, encVal_length, encNums_length]; omega)) ?_; rintro H1 st; have hv := st.facts; try simp only [List.mem_cons, List.not_mem_nil, forall_eq_or_imp, false_implies, implies_true, and_true, or_false, forall_eq] at hv)
  | (refine eitherK.raw ?_; simp)
  | refine Gs.mk (fun g => ?_) (fun g => ?_) <;> (try simp only [nm] at g) <;> try (exfalso; omega)
  | refine Gr.mk (fun g => ?_) (fun g => ?_) <;> (try simp only [nm] at g) <;> try (exfalso; omega)
  | (refine Run.of ?_; simp (maxSteps := 1000000) (disch := first | omega | assumption | (simp; done) | fail) [*, wrap_i64, idx53, irow])
 all_goals (try (refine Kx.mk ?_; obtain rfl : i = ns.length := (by omega); rw [List.take_length] at st; exact owesO_one (.inr rfl) rfl ⟨by simp [*]; omega, by have := st.out; simpa using this, st.grew⟩))
 refine T_lp (fun k F H' => ∃ i : Nat, k = ns.length - i ∧ i ≤ ns.length ∧ F 0 = .msl id (bs.length + 8 + 8 * i) 1 ∧ F 1 = PV.sl c 1 (ns.map irow) ∧ F 5 = pi i ∧ St H id (bs ++ encNum ns.length ++ encNums (ns.take i)) [] H') (ns.length) ?_ ?_
 exact ⟨0, by omega, by omega, by simp [*], by simp [*], by simp [*], by simpa [encNums] using st⟩
 rintro k F H1 ⟨i, rfl, hi, g0, g1, g5, st⟩
 have hv := st.facts
 have hn1 : (ns.take i).length = i := by simp; omega
 repeat' first
  | refine T_seq ?_
  | refine T_rgn ?_
  | refine T_cd ?_
  | refine T_sk ?_
  | refine T_rt ?_
  | refine T_block ?_
  | refine T_ex ?_
  | refine Kt_then ?_
  | refine Kt_block ?_
  | refine Kr_then ?_
  | refine Kr_block ?_
  | refine Kr_loop ?_
  | refine Ke_here ?_
  | refine Ke_then ?_
  | refine Ke_loop ?_
  | refine Ke_block ?_
  | refine Hid.mk ?_
  | (refine St.call (by first | exact st | exact st.new | exact st.new2) (rNumS _ (by first | exact st | exact st.new | exact st.new2) (by first | omega | (simp [encNum_length, encText_length, encVal_length, encNums_length, hn1]; done) | (simp [encNum_length, encText_length, encVal_length, encNums_length, hn1]; omega)) (by first | omega | (simp [encNum_length, encText_length, encVal_length, encNums_length, hn1]; done) | (simp [encNum_length, encText_length, encVal_length, encNums_length, hn1]; omega))) ?_; rintro H1 st; have hv := st.facts; try simp only [List.mem_cons, List.not_mem_nil, forall_eq_or_imp, false_implies, implies_true, and_true, or_false, forall_eq] at hv)
  | (refine St.lit1 (by first | exact st | exact st.new | exact st.new2) (by first | omega | (simp [encNum_length, encText_length, encVal_length, encNums_length]; done) | (simp [encNum_length, encText_length, encVal_length, encNums_length]; omega)) (by first | omega | exact u8_range _) (by first | omega | (simp [encNum_length, encText_length, encVal_length, encNums_length]; done) | (simp [encNum_length, encText_length, encVal_length, encNums_length]; omega)) ?_; rintro H1 st; have hv := st.facts; try simp only [List.mem_cons, List.not_mem_nil, forall_eq_or_imp, false_implies, implies_true, and_true, or_false, forall_eq] at hv)
  | (refine St.lit2 (by first | exact st | exact st.new | exact st.new2) (by first | omega | (simp [encNum_length, encText_length, encVal_length, encNums_length]; done) | (simp [encNum_length, encText_length, encVal_length, encNums_length]; omega)) (by first | omega | exact u8_range _) (by first | omega | exact u8_range _ | (split <;> omega)) (by first | omega | (simp [encNum_length, encText_length, encVal_length, encNums_length]; done) | (simp [encNum_length, encText_length, encVal_length, encNums_length]; omega)) ?_; rintro H1 st; have hv := st.facts; try simp only [List.mem_cons, List.not_mem_nil, forall_eq_or_imp, false_implies, implies_true, and_true, or_false, forall_eq] at hv)
  | (refine St.str st (by first | omega | (simp [encNum_length, encText_length, encVal_length, encNums_length]; done) | (simp [encNum_length, encText_length, encVal_length, encNums_length]; omega)) (by first | omega | (simp [encNum_length, encText_length, encVal_length, encNums_length]; done) | (simp [encNum_length, encText_length, encVal_length, encNums_length]; omega)) ?_; rintro H1 st; have hv := st.facts; try simp only [List.mem_cons, List.not_mem_nil, forall_eq_or_imp, false_implies, implies_true, and_true, or_false, forall_eq] at hv)
  | (refine eitherK.raw ?_; simp)
  | refine Gs.mk (fun g => ?_) (fun g => ?_) <;> (try simp only [nm] at g) <;> try (exfalso; omega)
  | refine Gr.mk (fun g => ?_) (fun g => ?_) <;> (try simp only [nm] at g) <;> try (exfalso; omega)
  | (refine Run.of ?_; simp (maxSteps := 1000000) (disch := first | omega | assumption | (simp; done) | fail) [*, wrap_i64, idx53, irow])
 all_goals (try (refine Kx.mk ?_; obtain rfl : i = ns.length := (by omega); rw [List.take_length] at st; exact owesO_one (.inr rfl) rfl ⟨by simp [*]; omega, by have := st.out; simpa using this, st.grew⟩))
 all_goals first | (refine Kt_loop ⟨_, ?_, i + 1, rfl, by omega, by simp [*]; omega, by simp [*], by simp [*], by rw [encNums_take (by omega), ← List.append_assoc, ← nth_get _ _ (by omega)]; exact st⟩ <;> omega) | skip
 all_goals trace_state
theorem rNumsS {H0 H : AS} {id n : Nat} {bs : List UInt8} {K : List (Nat × List (List PV))}  (c : Nat) (ns : List Int) (hs : bs.length + 8 + 8 * ns.length ≤ 2 ^ 44) (h : St H0 id bs K H) (hn : n = bs.length) : ACalls Tryz.prog 76 [.msl id n 1, PV.sl c 1 (ns.map irow)] H fun q H' => q = .msl id (n + (8 + 8 * ns.length)) 1 ∧ H'.box id = some ((bs ++ (encNum ns.length ++ encNums ns)).map brow) ∧ Grew id H H' := rNums H id n bs c ns hs h.out h.lt hn
theorem idx53M (id n i : Nat) (h : i < n) : aIndexAddr Tryz.prog 53 (.msl id n 1) (pi i) = some (.ptr id n i 0) := by
 unfold aIndexAddr; rw [show Tryz.prog.underlying 53 = some (.slice 3) by kernel_rfl]; simp [show szOf Tryz.prog 3 = some 1 by kernel_rfl, amsl h]
structure Is {α : Type} (a b : α) : Prop where
 get : a = b
theorem encOp_nums (o : DOp) : encNums [o.code, o.a, o.b, o.c, o.d, o.lo, o.hi] ++ encVal o.value = encOp o := rfl
theorem flat_next {α : Type} [Inhabited α] {β : Type} {f : α → List β} {xs : List α} {i : Nat} (h : i < xs.length) : (xs.take (i + 1)).flatMap f = (xs.take i).flatMap f ++ f (nth xs (i : Int)) := by
 rw [flat_take_succ h, nth_get _ _ h]
theorem flat_room {α : Type} [Inhabited α] {β : Type} {f : α → List β} {xs : List α} {i : Nat} (h : i < xs.length) : ((xs.take i).flatMap f).length + (f (nth xs (i : Int))).length ≤ (xs.flatMap f).length := by
 rw [nth_get _ _ h]; exact flat_take h
theorem rFlat (H : AS) (id n : Nat) (bs : List UInt8) (c : Nat) (f : DFlat) (A B : Nat) (hA : (f.ops.flatMap encOp).length = A) (hB : (f.loops.flatMap encLoop).length = B) (hs : bs.length + 64 + f.name.size + A + B ≤ 2 ^ 43) (hk : ∀ o ∈ f.ops, 0 ≤ o.value.kind ∧ o.value.kind < 256) (hb : H.box id = some (bs.map brow)) (hid : id < H.next) (hn : n = bs.length) : ACalls Tryz.prog 75 [.msl id n 1, .agg (f.row c)] H fun q H' => q = .msl id (n + (64 + f.name.size + A + B)) 1 ∧ H'.box id = some ((bs ++ encFlat f).map brow) ∧ Grew id H H' := by
 refine ACalls_open Tryz.func75 rfl (by kernel_rfl) (by simp) fun hwf hbel => ?_
 have st := St.start hb hid
 have hv := st.facts
 try simp only [List.mem_cons, List.not_mem_nil, forall_eq_or_imp, false_implies, implies_true, and_true, or_false, forall_eq] at hv
 have hol : f.ops.length ≤ A := by rw [← hA]; exact flat_ge (fun x => by rw [encOp_length]; omega)
 have hll : f.loops.length ≤ B := by rw [← hB]; exact flat_ge (fun x => by rw [encLoop_length]; omega)
 repeat' first
  | refine T_seq ?_
  | refine T_rgn ?_
  | refine T_cd ?_
  | refine T_sk ?_
  | refine T_rt ?_
  | refine T_block ?_
  | refine T_ex ?_
  | refine Kt_then ?_
  | refine Kt_block ?_
  | refine Kr_then ?_
  | refine Kr_block ?_
  | refine Ke_here ?_
  | refine Ke_then ?_
  | refine Hid.mk ?_
  | (refine St.call (by first | exact st | exact st.new | exact st.new2) (rTextS _ (by first | omega | (simp [encNum_length, encText_length, encVal_length, encNums_length]; done) | (simp [encNum_length, encText_length, encVal_length, encNums_length]; omega)) (by first | exact st | exact st.new | exact st.new2) (by first | omega | (simp [encNum_length, encText_length, encVal_length, encNums_length]; done) | (simp [encNum_length, encText_length, encVal_length, encNums_length]; omega))) ?_; rintro H1 st; have hv := st.facts; try simp only [List.mem_cons, List.not_mem_nil, forall_eq_or_imp, false_implies, implies_true, and_true, or_false, forall_eq] at hv)
  | (refine St.call (by first | exact st | exact st.new | exact st.new2) (rValueS o.value (by first | omega | (simp [encNum_length, encText_length, encVal_length, encNums_length]; done) | (simp [encNum_length, encText_length, encVal_length, encNums_length]; omega)) hko2 (by first | exact st | exact st.new | exact st.new2) (by first | omega | (simp [encNum_length, encText_length, encVal_length, encNums_length]; done) | (simp [encNum_length, encText_length, encVal_length, encNums_length]; omega))) ?_; rintro H1 st; have hv := st.facts; try simp only [List.mem_cons, List.not_mem_nil, forall_eq_or_imp, false_implies, implies_true, and_true, or_false, forall_eq] at hv)
  | (refine St.call (by first | exact st | exact st.new | exact st.new2) (rNumS _ (by first | exact st | exact st.new | exact st.new2) (by first | omega | (simp [encNum_length, encText_length, encVal_length, encNums_length]; done) | (simp [encNum_length, encText_length, encVal_length, encNums_length]; omega)) (by first | omega | (simp [encNum_length, encText_length, encVal_length, encNums_length]; done) | (simp [encNum_length, encText_length, encVal_length, encNums_length]; omega))) ?_; rintro H1 st; have hv := st.facts; try simp only [List.mem_cons, List.not_mem_nil, forall_eq_or_imp, false_implies, implies_true, and_true, or_false, forall_eq] at hv)
  | (refine eitherK.fz ?_; simp)
  | refine Gs.mk (fun g => ?_) (fun g => ?_) <;> (try simp only [nm] at g) <;> try (exfalso; omega)
  | refine Gr.mk (fun g => ?_) (fun g => ?_) <;> (try simp only [nm] at g) <;> try (exfalso; omega)
  | (refine Run.of ?_; simp (maxSteps := 1000000) (disch := first | omega | assumption | (simp; done) | fail) [*, wrap_i64, idx45, idx46, idx53M, irow, DFlat.row, DOp.row, DLoop.row, DVal.row])
 all_goals (try (refine Kx.mk ?_; have h3 : P3 = f.loops.flatMap encLoop := (by rw [hP3.get, List.take_of_length_le (by omega)]); refine owesO_one (.inr rfl) rfl ⟨?_, ?_, st.grew⟩; (· have e3 : P3.length = B := (by rw [h3, hB]); simp; omega); (· have e4 := st.out; rw [h3, hPe.get] at e4; simpa [encFlat, encNums] using e4)))
 refine T_lp (fun k F H' => ∃ (i m : Nat) (P : List UInt8), k = f.ops.length - i ∧ i ≤ f.ops.length ∧ Is P ((f.ops.take i).flatMap encOp) ∧ m = bs.length + 56 + f.name.size + P.length ∧ F 0 = .msl id m 1 ∧ F 3 = .ptr H.next 1 0 0 ∧ F 5 = pi i ∧ St H id (bs ++ encText f.name ++ encNum f.what ++ encNum f.cells ++ encNum f.base ++ encNum f.regs ++ encNum f.slots ++ encNum f.ops.length ++ P) [(H.next, [DFlat.row c f])] H') (f.ops.length) ?_ ?_
 exact ⟨0, _, [], by omega, by omega, ⟨rfl⟩, rfl, by simp [*]; omega, by simp [*], by simp [*], by rw [List.append_nil]; exact st⟩
 rintro k F H1 ⟨i, m, P, rfl, hi, hP, hm, g0, g3, g5, st⟩
 have hv := st.facts
 try simp only [List.mem_cons, List.not_mem_nil, forall_eq_or_imp, false_implies, implies_true, and_true, or_false, forall_eq] at hv
 have hroom : i < f.ops.length → P.length + (73 + (nth f.ops i).value.text.size) ≤ A := fun e => by rw [← encOp_length, hP.get, ← hA]; exact flat_room e
 have hroom0 : P.length ≤ A := by rw [hP.get, ← hA]; exact flat_le
 have hko : i < f.ops.length → 0 ≤ (nth f.ops i).value.kind ∧ (nth f.ops i).value.kind < 256 := fun e => hk _ (nth_mem e)
 repeat' first
  | refine T_seq ?_
  | refine T_rgn ?_
  | refine T_cd ?_
  | refine T_sk ?_
  | refine T_rt ?_
  | refine T_block ?_
  | refine T_ex ?_
  | refine Kt_then ?_
  | refine Kt_block ?_
  | refine Kr_then ?_
  | refine Kr_block ?_
  | refine Kr_loop ?_
  | refine Ke_here ?_
  | refine Ke_then ?_
  | refine Ke_loop ?_
  | refine Ke_block ?_
  | refine Hid.mk ?_
  | (refine St.call (by first | exact st | exact st.new | exact st.new2) (rTextS _ (by first | omega | (simp [encNum_length, encText_length, encVal_length, encNums_length]; done) | (simp [encNum_length, encText_length, encVal_length, encNums_length]; omega)) (by first | exact st | exact st.new | exact st.new2) (by first | omega | (simp [encNum_length, encText_length, encVal_length, encNums_length]; done) | (simp [encNum_length, encText_length, encVal_length, encNums_length]; omega))) ?_; rintro H1 st; have hv := st.facts; try simp only [List.mem_cons, List.not_mem_nil, forall_eq_or_imp, false_implies, implies_true, and_true, or_false, forall_eq] at hv)
  | (refine St.call (by first | exact st | exact st.new | exact st.new2) (rValueS o.value (by first | omega | (simp [encNum_length, encText_length, encVal_length, encNums_length]; done) | (simp [encNum_length, encText_length, encVal_length, encNums_length]; omega)) hko2 (by first | exact st | exact st.new | exact st.new2) (by first | omega | (simp [encNum_length, encText_length, encVal_length, encNums_length]; done) | (simp [encNum_length, encText_length, encVal_length, encNums_length]; omega))) ?_; rintro H1 st; have hv := st.facts; try simp only [List.mem_cons, List.not_mem_nil, forall_eq_or_imp, false_implies, implies_true, and_true, or_false, forall_eq] at hv)
  | (refine St.call (by first | exact st | exact st.new | exact st.new2) (rNumS _ (by first | exact st | exact st.new | exact st.new2) (by first | omega | (simp [encNum_length, encText_length, encVal_length, encNums_length]; done) | (simp [encNum_length, encText_length, encVal_length, encNums_length]; omega)) (by first | omega | (simp [encNum_length, encText_length, encVal_length, encNums_length]; done) | (simp [encNum_length, encText_length, encVal_length, encNums_length]; omega))) ?_; rintro H1 st; have hv := st.facts; try simp only [List.mem_cons, List.not_mem_nil, forall_eq_or_imp, false_implies, implies_true, and_true, or_false, forall_eq] at hv)
  | (refine eitherK.fz ?_; simp)
  | refine Gs.mk (fun g => ?_) (fun g => ?_) <;> (try simp only [nm] at g) <;> try (exfalso; omega)
  | refine Gr.mk (fun g => ?_) (fun g => ?_) <;> (try simp only [nm] at g) <;> try (exfalso; omega)
  | (refine Run.of ?_; simp (maxSteps := 1000000) (disch := first | omega | assumption | (simp; done) | fail) [*, wrap_i64, idx45, idx46, idx53M, irow, DFlat.row, DOp.row, DLoop.row, DVal.row])
 all_goals (try (refine Kx.mk ?_; have h3 : P3 = f.loops.flatMap encLoop := (by rw [hP3.get, List.take_of_length_le (by omega)]); refine owesO_one (.inr rfl) rfl ⟨?_, ?_, st.grew⟩; (· have e3 : P3.length = B := (by rw [h3, hB]); simp; omega); (· have e4 := st.out; rw [h3, hPe.get] at e4; simpa [encFlat, encNums] using e4)))
 all_goals first | (refine Kt_loop ⟨_, ?_, i + 1, _, P ++ encOp (nth f.ops i), rfl, by omega, ⟨by rw [flat_next (by omega), hP.get]⟩, rfl, (by rw [ho.get]; simp [encOp_length]; omega), by simp [*], by simp [*], (by have e7 : P2 = encNums [o.code, o.a, o.b, o.c, o.d, o.lo, o.hi] := (by rw [hP2.get, hns.get]; obtain rfl : j = 7 := (by omega); rfl); rw [e7, List.append_assoc _ (encNums _), encOp_nums, ← ho.get] at st; rw [← List.append_assoc]; exact st.less (by simp))⟩ <;> omega) | skip
 all_goals (try (refine Kx.mk ?_; have h3 : P3 = f.loops.flatMap encLoop := (by rw [hP3.get, List.take_of_length_le (by omega)]); refine owesO_one (.inr rfl) rfl ⟨?_, ?_, st.grew⟩; (· have e3 : P3.length = B := (by rw [h3, hB]); simp; omega); (· have e4 := st.out; rw [h3, hPe.get] at e4; simpa [encFlat, encNums] using e4)))
 obtain ⟨o, ho⟩ : ∃ o, Is (nth f.ops i) o := ⟨_, ⟨rfl⟩⟩
 have hko2 := hko (by omega)
 rw [ho.get] at hko2
 have hroom2 := hroom (by omega)
 rw [ho.get] at hroom2
 obtain ⟨ns, hns⟩ : ∃ ns, Is ns [o.code, o.a, o.b, o.c, o.d, o.lo, o.hi] := ⟨_, ⟨rfl⟩⟩
 have hl7 : ns.length = 7 := by rw [hns.get]; rfl
 obtain ⟨b3, eb3⟩ : ∃ b, Is b (H1.next + 1) := ⟨_, ⟨rfl⟩⟩
 obtain ⟨b2, eb2⟩ : ∃ b, Is b H1.next := ⟨_, ⟨rfl⟩⟩
 refine T_lp (fun k F H' => ∃ (j m : Nat) (P2 : List UInt8) (_ : 0 = 0), k = 7 - j ∧ j ≤ 7 ∧ Is P2 (encNums (ns.take j)) ∧ m = bs.length + 56 + f.name.size + P.length + P2.length ∧ P2.length = 8 * j ∧ F 0 = .msl id m 1 ∧ F 3 = .ptr H.next 1 0 0 ∧ F 5 = pi i ∧ F 6 = .ptr b2 1 0 0 ∧ F 7 = .msl b3 7 1 ∧ F 8 = pi j ∧ St H id (bs ++ encText f.name ++ encNum f.what ++ encNum f.cells ++ encNum f.base ++ encNum f.regs ++ encNum f.slots ++ encNum f.ops.length ++ P ++ P2) [(b2, [DOp.row o]), (b3, ns.map irow), (H.next, [DFlat.row c f])] H') (7) ?_ ?_
 exact ⟨0, _, [], rfl, by omega, by omega, ⟨rfl⟩, rfl, rfl, by simp [*], by simp [*], by simp [*], by simp [eb2.get], by first | (simp [eb3.get]; done) | (simp [eb3.get]; kernel_rfl), by simp [*], by rw [List.append_nil, eb2.get]; rw [hns.get, ← ho.get, eb3.get]; exact (st.new2.new).less (by simp [DOp.row, irow])⟩
 rintro k F H1 ⟨j, m2, P2, -, rfl, hj, hP2, hm2, hl2, g0, g3, g5, g6, g7, g8, st⟩
 have hv := st.facts
 try simp only [List.mem_cons, List.not_mem_nil, forall_eq_or_imp, false_implies, implies_true, and_true, or_false, forall_eq] at hv
 repeat' first
  | refine T_seq ?_
  | refine T_rgn ?_
  | refine T_cd ?_
  | refine T_sk ?_
  | refine T_rt ?_
  | refine T_block ?_
  | refine T_ex ?_
  | refine Kt_then ?_
  | refine Kt_block ?_
  | refine Kr_then ?_
  | refine Kr_block ?_
  | refine Kr_loop ?_
  | refine Ke_here ?_
  | refine Ke_then ?_
  | refine Ke_loop ?_
  | refine Ke_block ?_
  | refine Hid.mk ?_
  | (refine St.call (by first | exact st | exact st.new | exact st.new2) (rTextS _ (by first | omega | (simp [encNum_length, encText_length, encVal_length, encNums_length]; done) | (simp [encNum_length, encText_length, encVal_length, encNums_length]; omega)) (by first | exact st | exact st.new | exact st.new2) (by first | omega | (simp [encNum_length, encText_length, encVal_length, encNums_length]; done) | (simp [encNum_length, encText_length, encVal_length, encNums_length]; omega))) ?_; rintro H1 st; have hv := st.facts; try simp only [List.mem_cons, List.not_mem_nil, forall_eq_or_imp, false_implies, implies_true, and_true, or_false, forall_eq] at hv)
  | (refine St.call (by first | exact st | exact st.new | exact st.new2) (rValueS o.value (by first | omega | (simp [encNum_length, encText_length, encVal_length, encNums_length]; done) | (simp [encNum_length, encText_length, encVal_length, encNums_length]; omega)) hko2 (by first | exact st | exact st.new | exact st.new2) (by first | omega | (simp [encNum_length, encText_length, encVal_length, encNums_length]; done) | (simp [encNum_length, encText_length, encVal_length, encNums_length]; omega))) ?_; rintro H1 st; have hv := st.facts; try simp only [List.mem_cons, List.not_mem_nil, forall_eq_or_imp, false_implies, implies_true, and_true, or_false, forall_eq] at hv)
  | (refine St.call (by first | exact st | exact st.new | exact st.new2) (rNumS _ (by first | exact st | exact st.new | exact st.new2) (by first | omega | (simp [encNum_length, encText_length, encVal_length, encNums_length]; done) | (simp [encNum_length, encText_length, encVal_length, encNums_length]; omega)) (by first | omega | (simp [encNum_length, encText_length, encVal_length, encNums_length]; done) | (simp [encNum_length, encText_length, encVal_length, encNums_length]; omega))) ?_; rintro H1 st; have hv := st.facts; try simp only [List.mem_cons, List.not_mem_nil, forall_eq_or_imp, false_implies, implies_true, and_true, or_false, forall_eq] at hv)
  | (refine eitherK.fz ?_; simp)
  | refine Gs.mk (fun g => ?_) (fun g => ?_) <;> (try simp only [nm] at g) <;> try (exfalso; omega)
  | refine Gr.mk (fun g => ?_) (fun g => ?_) <;> (try simp only [nm] at g) <;> try (exfalso; omega)
  | (refine Run.of ?_; simp (maxSteps := 1000000) (disch := first | omega | assumption | (simp; done) | fail) [*, wrap_i64, idx45, idx46, idx53M, irow, DFlat.row, DOp.row, DLoop.row, DVal.row])
 all_goals (try (refine Kx.mk ?_; have h3 : P3 = f.loops.flatMap encLoop := (by rw [hP3.get, List.take_of_length_le (by omega)]); refine owesO_one (.inr rfl) rfl ⟨?_, ?_, st.grew⟩; (· have e3 : P3.length = B := (by rw [h3, hB]); simp; omega); (· have e4 := st.out; rw [h3, hPe.get] at e4; simpa [encFlat, encNums] using e4)))
 all_goals first | (refine Kt_loop ⟨_, ?_, j + 1, _, P2 ++ encNum (ns[j]'(by omega)), rfl, rfl, by omega, ⟨by rw [encNums_take (by omega), hP2.get]⟩, rfl, by simp [encNum_length]; omega, (by simp [encOp_length, encNum_length, encLoop_length]; omega), by simp [*], by simp [*], by simp [*], by simp [*], by simp [*], by rw [← List.append_assoc]; exact st⟩ <;> omega) | (refine Kt_loop ⟨_, ?_, i + 1, _, P ++ encOp (nth f.ops i), rfl, by omega, ⟨by rw [flat_next (by omega), hP.get]⟩, rfl, (by rw [ho.get]; simp [encOp_length]; omega), by simp [*], by simp [*], (by have e7 : P2 = encNums [o.code, o.a, o.b, o.c, o.d, o.lo, o.hi] := (by rw [hP2.get, hns.get]; obtain rfl : j = 7 := (by omega); rfl); rw [e7, List.append_assoc _ (encNums _), encOp_nums, ← ho.get] at st; rw [← List.append_assoc]; exact st.less (by simp))⟩ <;> omega) | skip
 all_goals (try (refine Kx.mk ?_; have h3 : P3 = f.loops.flatMap encLoop := (by rw [hP3.get, List.take_of_length_le (by omega)]); refine owesO_one (.inr rfl) rfl ⟨?_, ?_, st.grew⟩; (· have e3 : P3.length = B := (by rw [h3, hB]); simp; omega); (· have e4 := st.out; rw [h3, hPe.get] at e4; simpa [encFlat, encNums] using e4)))
 have hPl : P.length = A := by rw [hP.get, List.take_of_length_le (by omega), hA]
 have hPe : Is P (f.ops.flatMap encOp) := ⟨by rw [hP.get, List.take_of_length_le (by omega)]⟩
 clear hP
 refine T_lp (fun k F H' => ∃ (i m : Nat) (P3 : List UInt8), k = f.loops.length - i ∧ i ≤ f.loops.length ∧ Is P3 ((f.loops.take i).flatMap encLoop) ∧ m = bs.length + 64 + f.name.size + A + P3.length ∧ F 0 = .msl id m 1 ∧ F 3 = .ptr H.next 1 0 0 ∧ F 9 = pi i ∧ St H id (bs ++ encText f.name ++ encNum f.what ++ encNum f.cells ++ encNum f.base ++ encNum f.regs ++ encNum f.slots ++ encNum f.ops.length ++ P ++ encNum f.loops.length ++ P3) [(H.next, [DFlat.row c f])] H') (f.loops.length) ?_ ?_
 exact ⟨0, _, [], by omega, by omega, ⟨rfl⟩, rfl, by simp; omega, by simp [*], by simp [*], by rw [List.append_nil]; exact st⟩
 rintro k F H1 ⟨i, m, P3, rfl, hi, hP3, hm, g0, g3, g9, st⟩
 have hv := st.facts
 try simp only [List.mem_cons, List.not_mem_nil, forall_eq_or_imp, false_implies, implies_true, and_true, or_false, forall_eq] at hv
 have hroom3 : i < f.loops.length → P3.length + 24 ≤ B := fun e => by rw [← encLoop_length (nth f.loops i), hP3.get, ← hB]; exact flat_room e
 have hroom4 : P3.length ≤ B := by rw [hP3.get, ← hB]; exact flat_le
 repeat' first
  | refine T_seq ?_
  | refine T_rgn ?_
  | refine T_cd ?_
  | refine T_sk ?_
  | refine T_rt ?_
  | refine T_block ?_
  | refine T_ex ?_
  | refine Kt_then ?_
  | refine Kt_block ?_
  | refine Kr_then ?_
  | refine Kr_block ?_
  | refine Kr_loop ?_
  | refine Ke_here ?_
  | refine Ke_then ?_
  | refine Ke_loop ?_
  | refine Ke_block ?_
  | refine Hid.mk ?_
  | (refine St.call (by first | exact st | exact st.new | exact st.new2) (rTextS _ (by first | omega | (simp [encNum_length, encText_length, encVal_length, encNums_length]; done) | (simp [encNum_length, encText_length, encVal_length, encNums_length]; omega)) (by first | exact st | exact st.new | exact st.new2) (by first | omega | (simp [encNum_length, encText_length, encVal_length, encNums_length]; done) | (simp [encNum_length, encText_length, encVal_length, encNums_length]; omega))) ?_; rintro H1 st; have hv := st.facts; try simp only [List.mem_cons, List.not_mem_nil, forall_eq_or_imp, false_implies, implies_true, and_true, or_false, forall_eq] at hv)
  | (refine St.call (by first | exact st | exact st.new | exact st.new2) (rValueS o.value (by first | omega | (simp [encNum_length, encText_length, encVal_length, encNums_length]; done) | (simp [encNum_length, encText_length, encVal_length, encNums_length]; omega)) hko2 (by first | exact st | exact st.new | exact st.new2) (by first | omega | (simp [encNum_length, encText_length, encVal_length, encNums_length]; done) | (simp [encNum_length, encText_length, encVal_length, encNums_length]; omega))) ?_; rintro H1 st; have hv := st.facts; try simp only [List.mem_cons, List.not_mem_nil, forall_eq_or_imp, false_implies, implies_true, and_true, or_false, forall_eq] at hv)
  | (refine St.call (by first | exact st | exact st.new | exact st.new2) (rNumS _ (by first | exact st | exact st.new | exact st.new2) (by first | omega | (simp [encNum_length, encText_length, encVal_length, encNums_length]; done) | (simp [encNum_length, encText_length, encVal_length, encNums_length]; omega)) (by first | omega | (simp [encNum_length, encText_length, encVal_length, encNums_length]; done) | (simp [encNum_length, encText_length, encVal_length, encNums_length]; omega))) ?_; rintro H1 st; have hv := st.facts; try simp only [List.mem_cons, List.not_mem_nil, forall_eq_or_imp, false_implies, implies_true, and_true, or_false, forall_eq] at hv)
  | (refine eitherK.fz ?_; simp)
  | refine Gs.mk (fun g => ?_) (fun g => ?_) <;> (try simp only [nm] at g) <;> try (exfalso; omega)
  | refine Gr.mk (fun g => ?_) (fun g => ?_) <;> (try simp only [nm] at g) <;> try (exfalso; omega)
  | (refine Run.of ?_; simp (maxSteps := 1000000) (disch := first | omega | assumption | (simp; done) | fail) [*, wrap_i64, idx45, idx46, idx53M, irow, DFlat.row, DOp.row, DLoop.row, DVal.row])
 all_goals (try (refine Kx.mk ?_; have h3 : P3 = f.loops.flatMap encLoop := (by rw [hP3.get, List.take_of_length_le (by omega)]); refine owesO_one (.inr rfl) rfl ⟨?_, ?_, st.grew⟩; (· have e3 : P3.length = B := (by rw [h3, hB]); simp; omega); (· have e4 := st.out; rw [h3, hPe.get] at e4; simpa [encFlat, encNums] using e4)))
 all_goals first | (refine Kt_loop ⟨_, ?_, i + 1, _, P3 ++ encLoop (nth f.loops i), rfl, by omega, ⟨by rw [flat_next (by omega), hP3.get]⟩, rfl, (by simp [encOp_length, encNum_length, encLoop_length]; omega), by simp [*], by simp [*], by simpa [encLoop, encNums] using st⟩ <;> omega) | skip
 all_goals trace_state
theorem St.new2e {H0 H : AS} {id b : Nat} {bs : List UInt8} {K : List (Nat × List (List PV))} {row z : List (List PV)} (h : St H0 id bs K H) (e : H.next = b) : St H0 id bs ((b, row) :: K) (((H.setBox b z).bump 1).setBox b row) := by subst e; exact h.new2
theorem St.facts2 {H0 H : AS} {id : Nat} {bs : List UInt8} {K : List (Nat × List (List PV))} (h : St H0 id bs K H) : ((id = H.next) = False) ∧ ∀ x ∈ K, ((x.1 = H.next) = False) ∧ ((x.1 = id) = False) ∧ H.box x.1 = some x.2 := by
 obtain ⟨h1, h2⟩ := h.facts
 exact ⟨eq_false h1, fun x hx => ⟨eq_false (h2 x hx).1, eq_false (h2 x hx).2.1, (h2 x hx).2.2⟩⟩
theorem St.begin {H : AS} {bs : List UInt8} {row : List (List PV)} {rows : List (List PV)} (e : rows = bs.map brow) : St H (H.next + 1) bs [(H.next, row)] ((((H.setBox H.next row).bump 1).setBox (H.next + 1) rows).bump 1) := by
 subst e
 refine ⟨by simp, by simp, ?_, fun x hx => ?_⟩
 refine ⟨by simp; omega, rfl, fun j a b => ?_, fun j => rfl⟩
 simp [show ¬ j = H.next + 1 by omega, show ¬ j = H.next by omega]
 obtain rfl := List.mem_singleton.1 hx
 exact ⟨by simp; omega, by simp, by simp⟩
theorem St.ext {H0 H : AS} {id : Nat} {bs : List UInt8} {K : List (Nat × List (List PV))} (h : St H0 id bs K H) (hid : H0.next ≤ id) : H0.Ext H :=
 ⟨h.grew.next, fun j hj => h.grew.box j hj (by omega), fun j _ => h.grew.mp j, h.grew.color⟩
theorem St.outIs {H0 H : AS} {id n : Nat} {bs : List UInt8} {K : List (Nat × List (List PV))} (h : St H0 id bs K H) (hid : H0.next ≤ id) (hn : n = bs.length) : OutIs H0.next H (.msl id n 1) 1 (bs.map brow) :=
 .inr ⟨id, hid, h.lt, by rw [hn, List.length_map], h.out⟩
theorem rFlatS {H0 H : AS} {id n : Nat} {bs : List UInt8} {K : List (Nat × List (List PV))} (c : Nat) (f : DFlat) (hs : bs.length + (encFlat f).length ≤ 2 ^ 43) (hk : ∀ o ∈ f.ops, 0 ≤ o.value.kind ∧ o.value.kind < 256) (h : St H0 id bs K H) (hn : n = bs.length) : ACalls Tryz.prog 75 [.msl id n 1, .agg (f.row c)] H fun q H' => q = .msl id (n + (encFlat f).length) 1 ∧ H'.box id = some ((bs ++ encFlat f).map brow) ∧ Grew id H H' := by
 have := rFlat H id n bs c f _ _ rfl rfl (by rw [encFlat_length] at hs; omega) hk h.out h.lt hn
 rw [show n + (64 + f.name.size + (f.ops.flatMap encOp).length + (f.loops.flatMap encLoop).length) = n + (encFlat f).length by rw [encFlat_length]] at this
 exact this
theorem St.lit2e {H0 H : AS} {id n j : Nat} {bs : List UInt8} {K : List (Nat × List (List PV))} {k : PV → AS → Prop} {v u : Int} (h : St H0 id bs K H) (e : H.next = j) (hn : n = bs.length) (hv : 0 ≤ v ∧ v < 256) (hu : 0 ≤ u ∧ u < 256) (hs : bs.length + 2 ≤ 2 ^ 46) (hk : ∀ H', St H0 id (bs ++ [byteOf v, byteOf u]) K H' → Run (k (.msl id (n + 2) 1) H')) : @appendK Tryz.prog ((H.setBox j [[.val (.int .u8 v)], [.val (.int .u8 u)]]).bump 1) 28 28 (.msl id n 1) (.msl j 2 1) ⟨k⟩ := by
 subst e; exact h.lit2 hn hv hu hs hk
theorem below_brow2 {n : Nat} (l : List UInt8) : ∀ r ∈ l.map brow, ∀ p ∈ r, Below n p := by
 intro r hr p hp
 obtain ⟨b, -, rfl⟩ := List.mem_map.1 hr
 obtain rfl := List.mem_singleton.1 hp
 exact .val _
theorem begin4 : [[PV.val (.int .u8 114)], [.val (.int .u8 108)], [.val (.int .u8 121)], [.val (.int .u8 1)]] = ([114, 108, 121, 1] : List UInt8).map brow := rfl
theorem rBody (H : AS) (c : Nat) (m : DImage) (A B C : Nat) (hA : (m.cells.flatMap encCell).length = A) (hB : (m.codes.flatMap encFlat).length = B) (hC : (m.jobs.flatMap encJob).length = C) (hs : 36 + m.name.size + A + B + C ≤ 2 ^ 43) (hk : ∀ x ∈ m.cells, 0 ≤ x.kind ∧ x.kind < 256 ∧ 0 ≤ x.init.kind ∧ x.init.kind < 256) (hk2 : ∀ f ∈ m.codes, ∀ o ∈ f.ops, 0 ≤ o.value.kind ∧ o.value.kind < 256) : ACalls Tryz.prog 34 [.agg (m.row c)] H fun q H' => q = PV.sl H.color 1 ((encImage m).map brow) ∧ H' = H := by
 refine ACalls_intro Tryz.func34 rfl (by kernel_rfl) (by simp) fun hwf hbel => ?_
 have hv : True := trivial
 have hcl : True := trivial
 have hlc : m.cells.length ≤ A := by rw [← hA]; exact flat_ge (fun x => by rw [encCell_length]; omega)
 have hlf : m.codes.length ≤ B := by rw [← hB]; exact flat_ge (fun x => by rw [encFlat_length]; omega)
 have hlj : m.jobs.length ≤ C := by rw [← hC]; exact flat_ge (fun x => by rw [encJob_length]; omega)
 repeat' first
  | refine T_seq ?_
  | refine T_rgn ?_
  | refine T_cd ?_
  | refine T_sk ?_
  | refine T_rt ?_
  | refine T_block ?_
  | refine T_ex ?_
  | refine Kt_then ?_
  | refine Kt_block ?_
  | refine Kr_then ?_
  | refine Kr_block ?_
  | refine Ke_here ?_
  | refine Ke_then ?_
  | refine Hid.mk ?_
  | (refine St.call (bs := ([114, 108, 121, 1] : List UInt8)) (St.begin begin4) (rTextS _ (by simp; omega) (St.begin begin4) rfl) ?_; rintro H1 st2; try (replace hvp := hv); try (replace hcp := hcl); replace st := st2; clear st2; replace hcl := st.grew.color; replace hv := st.facts2; try simp only [List.mem_cons, List.not_mem_nil, forall_eq_or_imp, false_implies, implies_true, and_true, or_false, forall_eq] at hv)
  | (refine St.call (by first | exact st | exact st.new | exact st.new2 | exact st.new2e hb2) (rFlatS c _ (by simp only [List.length_append, List.length_cons, List.length_nil, encNum_length, encText_length, encVal_length, encNums_length] <;> omega) (hk2 _ (nth_mem (by omega))) (by first | exact st | exact st.new | exact st.new2 | exact st.new2e hb2) (by simp only [List.length_append, List.length_cons, List.length_nil, encNum_length, encText_length, encVal_length, encNums_length] <;> omega)) ?_; rintro H1 st2; try (replace hvp := hv); try (replace hcp := hcl); replace st := st2; clear st2; replace hcl := st.grew.color; replace hv := st.facts2; try simp only [List.mem_cons, List.not_mem_nil, forall_eq_or_imp, false_implies, implies_true, and_true, or_false, forall_eq] at hv)
  | (refine St.call (by first | exact st | exact st.new | exact st.new2 | exact st.new2e hb2) (rNumsS c _ (by simp only [List.length_append, List.length_cons, List.length_nil, encNum_length, encText_length, encVal_length, encNums_length] <;> omega) (by first | exact st | exact st.new | exact st.new2 | exact st.new2e hb2) (by simp only [List.length_append, List.length_cons, List.length_nil, encNum_length, encText_length, encVal_length, encNums_length] <;> omega)) ?_; rintro H1 st2; try (replace hvp := hv); try (replace hcp := hcl); replace st := st2; clear st2; replace hcl := st.grew.color; replace hv := st.facts2; try simp only [List.mem_cons, List.not_mem_nil, forall_eq_or_imp, false_implies, implies_true, and_true, or_false, forall_eq] at hv)
  | (refine St.call (by first | exact st | exact st.new | exact st.new2 | exact st.new2e hb2) (rTextS _ (by simp only [List.length_append, List.length_cons, List.length_nil, encNum_length, encText_length, encVal_length, encNums_length] <;> omega) (by first | exact st | exact st.new | exact st.new2 | exact st.new2e hb2) (by simp only [List.length_append, List.length_cons, List.length_nil, encNum_length, encText_length, encVal_length, encNums_length] <;> omega)) ?_; rintro H1 st2; try (replace hvp := hv); try (replace hcp := hcl); replace st := st2; clear st2; replace hcl := st.grew.color; replace hv := st.facts2; try simp only [List.mem_cons, List.not_mem_nil, forall_eq_or_imp, false_implies, implies_true, and_true, or_false, forall_eq] at hv)
  | (refine St.call (by first | exact st | exact st.new | exact st.new2 | exact st.new2e hb2) (rValueS (nth m.cells i).init (by simp only [List.length_append, List.length_cons, List.length_nil, encNum_length, encText_length, encVal_length, encNums_length] <;> omega) (by omega) (by first | exact st | exact st.new | exact st.new2 | exact st.new2e hb2) (by simp only [List.length_append, List.length_cons, List.length_nil, encNum_length, encText_length, encVal_length, encNums_length] <;> omega)) ?_; rintro H1 st2; try (replace hvp := hv); try (replace hcp := hcl); replace st := st2; clear st2; replace hcl := st.grew.color; replace hv := st.facts2; try simp only [List.mem_cons, List.not_mem_nil, forall_eq_or_imp, false_implies, implies_true, and_true, or_false, forall_eq] at hv)
  | (refine St.call (by first | exact st | exact st.new | exact st.new2 | exact st.new2e hb2) (rNumS _ (by first | exact st | exact st.new | exact st.new2 | exact st.new2e hb2) (by simp only [List.length_append, List.length_cons, List.length_nil, encNum_length, encText_length, encVal_length, encNums_length] <;> omega) (by simp only [List.length_append, List.length_cons, List.length_nil, encNum_length, encText_length, encVal_length, encNums_length] <;> omega)) ?_; rintro H1 st2; try (replace hvp := hv); try (replace hcp := hcl); replace st := st2; clear st2; replace hcl := st.grew.color; replace hv := st.facts2; try simp only [List.mem_cons, List.not_mem_nil, forall_eq_or_imp, false_implies, implies_true, and_true, or_false, forall_eq] at hv)
  | (refine St.lit2e (by first | exact st | exact st.new | exact st.new2 | exact st.new2e hb2) (by first | rfl | (simp [hb2]; done)) (by simp only [List.length_append, List.length_cons, List.length_nil, encNum_length, encText_length, encVal_length, encNums_length] <;> omega) (by first | omega | exact u8_range _ | (split <;> omega)) (by first | omega | exact u8_range _ | (split <;> omega)) (by simp only [List.length_append, List.length_cons, List.length_nil, encNum_length, encText_length, encVal_length, encNums_length] <;> omega) ?_; rintro H1 st2; try (replace hvp := hv); try (replace hcp := hcl); replace st := st2; clear st2; replace hcl := st.grew.color; replace hv := st.facts2; try simp only [List.mem_cons, List.not_mem_nil, forall_eq_or_imp, false_implies, implies_true, and_true, or_false, forall_eq] at hv)
  | (refine eitherK.raw ?_; simp [*])
  | refine T_dr (id := 7) (fun i => i = b2) [] (.free 0 (.free 1 (.free 2 (.free 3 (.free 4 (.free 5 (.sole 6 (.sole 7 (.free 8 .done))))))))) mix ?_
  | refine T_dr (id := 12) (fun i => i = b2) [] (.free 0 (.free 1 (.free 2 (.free 3 (.free 4 (.free 5 (.free 6 (.sole 7 (.sole 8 (.free 9 .done)))))))))) mix ?_
  | (refine callR (rBit _ _) ?_; rintro _ Hz ⟨rfl, hz⟩; subst Hz)
  | (refine askR (fun _ => _) (fun _ _ => rfl) (fun Hq _ => rBit Hq _) ?_)
  | refine Gs.mk (fun g => ?_) (fun g => ?_) <;> (try simp only [nm] at g) <;> try (exfalso; omega)
  | refine Gr.mk (fun g => ?_) (fun g => ?_) <;> (try simp only [nm] at g) <;> try (exfalso; omega)
  | (refine Run.of ?_; simp (maxSteps := 1000000) (disch := first | omega | assumption | (simp; done) | fail) [*, wrap_i64, idx22, idx23, idx24, DImage.row, DCell.row, DFlat.row, DJob.row, DVal.row])
 all_goals (try (refine Kx.mk ?_; have e3 := hP3.get; rw [List.take_of_length_le (by omega)] at e3; have e3l : P3.length = C := (by rw [e3, hC]); have st4 := st.less (K2 := []) (by simp); have e : ([114, 108, 121, 1] : List UInt8) ++ encText m.name ++ encNum m.cells.length ++ P ++ encNum m.codes.length ++ P2 ++ encNum m.jobs.length ++ P3 = encImage m := (by rw [e3, hP2e.get, hPe.get]; simp [encImage]); rw [e] at st4; refine owes_out (lo := H.next) (rows := (encImage m).map brow) (.inr rfl) hwf rfl (st4.outIs (by omega) (by rw [encImage_length, hA, hB, hC]; omega)) (Nat.le_refl _) (st4.ext (by omega)) (below_brow2 _)))
 refine T_lp (fun k F H' => ∃ (i mm : Nat) (P : List UInt8), k = m.cells.length - i ∧ i ≤ m.cells.length ∧ Is P ((m.cells.take i).flatMap encCell) ∧ mm = 20 + m.name.size + P.length ∧ F 3 = .msl (H.next + 1) mm 1 ∧ F 1 = .ptr H.next 1 0 0 ∧ F 4 = pi i ∧ St H (H.next + 1) (([114, 108, 121, 1] : List UInt8) ++ encText m.name ++ encNum m.cells.length ++ P) [(H.next, [DImage.row c m])] H') (m.cells.length) ?_ ?_
 exact ⟨0, _, [], by omega, by omega, ⟨rfl⟩, rfl, by simp; try omega, by simp [*], by simp [*], by rw [List.append_nil]; exact st⟩
 rintro k F H1 ⟨i, mm, P, rfl, hi, hP, hm, g3, g1, g4, st⟩
 replace hcl := st.grew.color
 replace hv := st.facts2
 try simp only [List.mem_cons, List.not_mem_nil, forall_eq_or_imp, false_implies, implies_true, and_true, or_false, forall_eq] at hv
 have hroomP : i < m.cells.length → P.length + (53 + (nth m.cells i).init.text.size + (nth m.cells i).addr.size) ≤ A := fun e => by have h := flat_room (f := encCell) e; rw [encCell_length] at h; rw [← hP.get, hA] at h; omega
 have hrooP : P.length ≤ A := by rw [hP.get, ← hA]; exact flat_le
 have hkc : i < m.cells.length → 0 ≤ (nth m.cells i).kind ∧ (nth m.cells i).kind < 256 ∧ 0 ≤ (nth m.cells i).init.kind ∧ (nth m.cells i).init.kind < 256 := fun e => hk _ (nth_mem e)
 have hk8 : i < m.cells.length → IntKind.i64.wrap (nth m.cells i).kind = (nth m.cells i).kind := fun e => wrap_i64 (by have := hkc e; omega) (by have := hkc e; omega)
 obtain ⟨b2, hb2⟩ : ∃ b, H1.next = b := ⟨_, rfl⟩
 repeat' first
  | refine T_seq ?_
  | refine T_rgn ?_
  | refine T_cd ?_
  | refine T_sk ?_
  | refine T_rt ?_
  | refine T_block ?_
  | refine T_ex ?_
  | refine Kt_then ?_
  | refine Kt_block ?_
  | refine Kr_then ?_
  | refine Kr_block ?_
  | refine Kr_loop ?_
  | refine Ke_here ?_
  | refine Ke_then ?_
  | refine Ke_loop ?_
  | refine Ke_block ?_
  | refine Hid.mk ?_
  | (refine St.call (bs := ([114, 108, 121, 1] : List UInt8)) (St.begin begin4) (rTextS _ (by simp; omega) (St.begin begin4) rfl) ?_; rintro H1 st2; try (replace hvp := hv); try (replace hcp := hcl); replace st := st2; clear st2; replace hcl := st.grew.color; replace hv := st.facts2; try simp only [List.mem_cons, List.not_mem_nil, forall_eq_or_imp, false_implies, implies_true, and_true, or_false, forall_eq] at hv)
  | (refine St.call (by first | exact st | exact st.new | exact st.new2 | exact st.new2e hb2) (rFlatS c _ (by simp only [List.length_append, List.length_cons, List.length_nil, encNum_length, encText_length, encVal_length, encNums_length] <;> omega) (hk2 _ (nth_mem (by omega))) (by first | exact st | exact st.new | exact st.new2 | exact st.new2e hb2) (by simp only [List.length_append, List.length_cons, List.length_nil, encNum_length, encText_length, encVal_length, encNums_length] <;> omega)) ?_; rintro H1 st2; try (replace hvp := hv); try (replace hcp := hcl); replace st := st2; clear st2; replace hcl := st.grew.color; replace hv := st.facts2; try simp only [List.mem_cons, List.not_mem_nil, forall_eq_or_imp, false_implies, implies_true, and_true, or_false, forall_eq] at hv)
  | (refine St.call (by first | exact st | exact st.new | exact st.new2 | exact st.new2e hb2) (rNumsS c _ (by simp only [List.length_append, List.length_cons, List.length_nil, encNum_length, encText_length, encVal_length, encNums_length] <;> omega) (by first | exact st | exact st.new | exact st.new2 | exact st.new2e hb2) (by simp only [List.length_append, List.length_cons, List.length_nil, encNum_length, encText_length, encVal_length, encNums_length] <;> omega)) ?_; rintro H1 st2; try (replace hvp := hv); try (replace hcp := hcl); replace st := st2; clear st2; replace hcl := st.grew.color; replace hv := st.facts2; try simp only [List.mem_cons, List.not_mem_nil, forall_eq_or_imp, false_implies, implies_true, and_true, or_false, forall_eq] at hv)
  | (refine St.call (by first | exact st | exact st.new | exact st.new2 | exact st.new2e hb2) (rTextS _ (by simp only [List.length_append, List.length_cons, List.length_nil, encNum_length, encText_length, encVal_length, encNums_length] <;> omega) (by first | exact st | exact st.new | exact st.new2 | exact st.new2e hb2) (by simp only [List.length_append, List.length_cons, List.length_nil, encNum_length, encText_length, encVal_length, encNums_length] <;> omega)) ?_; rintro H1 st2; try (replace hvp := hv); try (replace hcp := hcl); replace st := st2; clear st2; replace hcl := st.grew.color; replace hv := st.facts2; try simp only [List.mem_cons, List.not_mem_nil, forall_eq_or_imp, false_implies, implies_true, and_true, or_false, forall_eq] at hv)
  | (refine St.call (by first | exact st | exact st.new | exact st.new2 | exact st.new2e hb2) (rValueS (nth m.cells i).init (by simp only [List.length_append, List.length_cons, List.length_nil, encNum_length, encText_length, encVal_length, encNums_length] <;> omega) (by omega) (by first | exact st | exact st.new | exact st.new2 | exact st.new2e hb2) (by simp only [List.length_append, List.length_cons, List.length_nil, encNum_length, encText_length, encVal_length, encNums_length] <;> omega)) ?_; rintro H1 st2; try (replace hvp := hv); try (replace hcp := hcl); replace st := st2; clear st2; replace hcl := st.grew.color; replace hv := st.facts2; try simp only [List.mem_cons, List.not_mem_nil, forall_eq_or_imp, false_implies, implies_true, and_true, or_false, forall_eq] at hv)
  | (refine St.call (by first | exact st | exact st.new | exact st.new2 | exact st.new2e hb2) (rNumS _ (by first | exact st | exact st.new | exact st.new2 | exact st.new2e hb2) (by simp only [List.length_append, List.length_cons, List.length_nil, encNum_length, encText_length, encVal_length, encNums_length] <;> omega) (by simp only [List.length_append, List.length_cons, List.length_nil, encNum_length, encText_length, encVal_length, encNums_length] <;> omega)) ?_; rintro H1 st2; try (replace hvp := hv); try (replace hcp := hcl); replace st := st2; clear st2; replace hcl := st.grew.color; replace hv := st.facts2; try simp only [List.mem_cons, List.not_mem_nil, forall_eq_or_imp, false_implies, implies_true, and_true, or_false, forall_eq] at hv)
  | (refine St.lit2e (by first | exact st | exact st.new | exact st.new2 | exact st.new2e hb2) (by first | rfl | (simp [hb2]; done)) (by simp only [List.length_append, List.length_cons, List.length_nil, encNum_length, encText_length, encVal_length, encNums_length] <;> omega) (by first | omega | exact u8_range _ | (split <;> omega)) (by first | omega | exact u8_range _ | (split <;> omega)) (by simp only [List.length_append, List.length_cons, List.length_nil, encNum_length, encText_length, encVal_length, encNums_length] <;> omega) ?_; rintro H1 st2; try (replace hvp := hv); try (replace hcp := hcl); replace st := st2; clear st2; replace hcl := st.grew.color; replace hv := st.facts2; try simp only [List.mem_cons, List.not_mem_nil, forall_eq_or_imp, false_implies, implies_true, and_true, or_false, forall_eq] at hv)
  | (refine eitherK.raw ?_; simp [*])
  | refine T_dr (id := 7) (fun i => i = b2) [] (.free 0 (.free 1 (.free 2 (.free 3 (.free 4 (.free 5 (.sole 6 (.sole 7 (.free 8 .done))))))))) mix ?_
  | refine T_dr (id := 12) (fun i => i = b2) [] (.free 0 (.free 1 (.free 2 (.free 3 (.free 4 (.free 5 (.free 6 (.sole 7 (.sole 8 (.free 9 .done)))))))))) mix ?_
  | (refine callR (rBit _ _) ?_; rintro _ Hz ⟨rfl, hz⟩; subst Hz)
  | (refine askR (fun _ => _) (fun _ _ => rfl) (fun Hq _ => rBit Hq _) ?_)
  | refine Gs.mk (fun g => ?_) (fun g => ?_) <;> (try simp only [nm] at g) <;> try (exfalso; omega)
  | refine Gr.mk (fun g => ?_) (fun g => ?_) <;> (try simp only [nm] at g) <;> try (exfalso; omega)
  | (refine Run.of ?_; simp (maxSteps := 1000000) (disch := first | omega | assumption | (simp; done) | fail) [*, wrap_i64, idx22, idx23, idx24, DImage.row, DCell.row, DFlat.row, DJob.row, DVal.row])
 all_goals (try (refine Kx.mk ?_; have e3 := hP3.get; rw [List.take_of_length_le (by omega)] at e3; have e3l : P3.length = C := (by rw [e3, hC]); have st4 := st.less (K2 := []) (by simp); have e : ([114, 108, 121, 1] : List UInt8) ++ encText m.name ++ encNum m.cells.length ++ P ++ encNum m.codes.length ++ P2 ++ encNum m.jobs.length ++ P3 = encImage m := (by rw [e3, hP2e.get, hPe.get]; simp [encImage]); rw [e] at st4; refine owes_out (lo := H.next) (rows := (encImage m).map brow) (.inr rfl) hwf rfl (st4.outIs (by omega) (by rw [encImage_length, hA, hB, hC]; omega)) (Nat.le_refl _) (st4.ext (by omega)) (below_brow2 _)))
 all_goals first | (refine Kt_loop ⟨_, ?_, i + 1, _, P ++ encCell (nth m.cells i), rfl, by omega, ⟨by rw [flat_next (by omega), hP.get]⟩, rfl, (by first | (simp [encCell_length, encJob_length, encNum_length]; done) | (simp [encCell_length, encJob_length, encNum_length]; omega)), by simp [*], by simp [*], by have st2 := st.less (K2 := [(H.next, [DImage.row c m])]) (by simp); rw [← List.append_assoc]; simpa [encCell, encNums, hk8 (by omega), byte_wrap, bit] using st2⟩ <;> omega) | skip
 all_goals (try (refine Kx.mk ?_; have e3 := hP3.get; rw [List.take_of_length_le (by omega)] at e3; have e3l : P3.length = C := (by rw [e3, hC]); have st4 := st.less (K2 := []) (by simp); have e : ([114, 108, 121, 1] : List UInt8) ++ encText m.name ++ encNum m.cells.length ++ P ++ encNum m.codes.length ++ P2 ++ encNum m.jobs.length ++ P3 = encImage m := (by rw [e3, hP2e.get, hPe.get]; simp [encImage]); rw [e] at st4; refine owes_out (lo := H.next) (rows := (encImage m).map brow) (.inr rfl) hwf rfl (st4.outIs (by omega) (by rw [encImage_length, hA, hB, hC]; omega)) (Nat.le_refl _) (st4.ext (by omega)) (below_brow2 _)))
 have hPl : P.length = A := by rw [hP.get, List.take_of_length_le (by omega), hA]
 have hPe : Is P (m.cells.flatMap encCell) := ⟨by rw [hP.get, List.take_of_length_le (by omega)]⟩
 clear hP hroomP hrooP hkc hk8
 refine T_lp (fun k F H' => ∃ (i mm : Nat) (P2 : List UInt8), k = m.codes.length - i ∧ i ≤ m.codes.length ∧ Is P2 ((m.codes.take i).flatMap encFlat) ∧ mm = 28 + m.name.size + A + P2.length ∧ F 3 = .msl (H.next + 1) mm 1 ∧ F 1 = .ptr H.next 1 0 0 ∧ F 6 = pi i ∧ St H (H.next + 1) (([114, 108, 121, 1] : List UInt8) ++ encText m.name ++ encNum m.cells.length ++ P ++ encNum m.codes.length ++ P2) [(H.next, [DImage.row c m])] H') (m.codes.length) ?_ ?_
 exact ⟨0, _, [], by omega, by omega, ⟨rfl⟩, rfl, by simp; try omega, by simp [*], by simp [*], by rw [List.append_nil]; exact st⟩
 rintro k F H1 ⟨i, mm, P2, rfl, hi, hP2, hm, g3, g1, g6, st⟩
 replace hcl := st.grew.color
 replace hv := st.facts2
 try simp only [List.mem_cons, List.not_mem_nil, forall_eq_or_imp, false_implies, implies_true, and_true, or_false, forall_eq] at hv
 have hroomP2 : i < m.codes.length → P2.length + ((encFlat (nth m.codes i)).length) ≤ B := fun e => by have h := flat_room (f := encFlat) e; rw [← hP2.get, hB] at h; omega
 have hrooP2 : P2.length ≤ B := by rw [hP2.get, ← hB]; exact flat_le
 repeat' first
  | refine T_seq ?_
  | refine T_rgn ?_
  | refine T_cd ?_
  | refine T_sk ?_
  | refine T_rt ?_
  | refine T_block ?_
  | refine T_ex ?_
  | refine Kt_then ?_
  | refine Kt_block ?_
  | refine Kr_then ?_
  | refine Kr_block ?_
  | refine Kr_loop ?_
  | refine Ke_here ?_
  | refine Ke_then ?_
  | refine Ke_loop ?_
  | refine Ke_block ?_
  | refine Hid.mk ?_
  | (refine St.call (bs := ([114, 108, 121, 1] : List UInt8)) (St.begin begin4) (rTextS _ (by simp; omega) (St.begin begin4) rfl) ?_; rintro H1 st2; try (replace hvp := hv); try (replace hcp := hcl); replace st := st2; clear st2; replace hcl := st.grew.color; replace hv := st.facts2; try simp only [List.mem_cons, List.not_mem_nil, forall_eq_or_imp, false_implies, implies_true, and_true, or_false, forall_eq] at hv)
  | (refine St.call (by first | exact st | exact st.new | exact st.new2 | exact st.new2e hb2) (rFlatS c _ (by simp only [List.length_append, List.length_cons, List.length_nil, encNum_length, encText_length, encVal_length, encNums_length] <;> omega) (hk2 _ (nth_mem (by omega))) (by first | exact st | exact st.new | exact st.new2 | exact st.new2e hb2) (by simp only [List.length_append, List.length_cons, List.length_nil, encNum_length, encText_length, encVal_length, encNums_length] <;> omega)) ?_; rintro H1 st2; try (replace hvp := hv); try (replace hcp := hcl); replace st := st2; clear st2; replace hcl := st.grew.color; replace hv := st.facts2; try simp only [List.mem_cons, List.not_mem_nil, forall_eq_or_imp, false_implies, implies_true, and_true, or_false, forall_eq] at hv)
  | (refine St.call (by first | exact st | exact st.new | exact st.new2 | exact st.new2e hb2) (rNumsS c _ (by simp only [List.length_append, List.length_cons, List.length_nil, encNum_length, encText_length, encVal_length, encNums_length] <;> omega) (by first | exact st | exact st.new | exact st.new2 | exact st.new2e hb2) (by simp only [List.length_append, List.length_cons, List.length_nil, encNum_length, encText_length, encVal_length, encNums_length] <;> omega)) ?_; rintro H1 st2; try (replace hvp := hv); try (replace hcp := hcl); replace st := st2; clear st2; replace hcl := st.grew.color; replace hv := st.facts2; try simp only [List.mem_cons, List.not_mem_nil, forall_eq_or_imp, false_implies, implies_true, and_true, or_false, forall_eq] at hv)
  | (refine St.call (by first | exact st | exact st.new | exact st.new2 | exact st.new2e hb2) (rTextS _ (by simp only [List.length_append, List.length_cons, List.length_nil, encNum_length, encText_length, encVal_length, encNums_length] <;> omega) (by first | exact st | exact st.new | exact st.new2 | exact st.new2e hb2) (by simp only [List.length_append, List.length_cons, List.length_nil, encNum_length, encText_length, encVal_length, encNums_length] <;> omega)) ?_; rintro H1 st2; try (replace hvp := hv); try (replace hcp := hcl); replace st := st2; clear st2; replace hcl := st.grew.color; replace hv := st.facts2; try simp only [List.mem_cons, List.not_mem_nil, forall_eq_or_imp, false_implies, implies_true, and_true, or_false, forall_eq] at hv)
  | (refine St.call (by first | exact st | exact st.new | exact st.new2 | exact st.new2e hb2) (rValueS (nth m.cells i).init (by simp only [List.length_append, List.length_cons, List.length_nil, encNum_length, encText_length, encVal_length, encNums_length] <;> omega) (by omega) (by first | exact st | exact st.new | exact st.new2 | exact st.new2e hb2) (by simp only [List.length_append, List.length_cons, List.length_nil, encNum_length, encText_length, encVal_length, encNums_length] <;> omega)) ?_; rintro H1 st2; try (replace hvp := hv); try (replace hcp := hcl); replace st := st2; clear st2; replace hcl := st.grew.color; replace hv := st.facts2; try simp only [List.mem_cons, List.not_mem_nil, forall_eq_or_imp, false_implies, implies_true, and_true, or_false, forall_eq] at hv)
  | (refine St.call (by first | exact st | exact st.new | exact st.new2 | exact st.new2e hb2) (rNumS _ (by first | exact st | exact st.new | exact st.new2 | exact st.new2e hb2) (by simp only [List.length_append, List.length_cons, List.length_nil, encNum_length, encText_length, encVal_length, encNums_length] <;> omega) (by simp only [List.length_append, List.length_cons, List.length_nil, encNum_length, encText_length, encVal_length, encNums_length] <;> omega)) ?_; rintro H1 st2; try (replace hvp := hv); try (replace hcp := hcl); replace st := st2; clear st2; replace hcl := st.grew.color; replace hv := st.facts2; try simp only [List.mem_cons, List.not_mem_nil, forall_eq_or_imp, false_implies, implies_true, and_true, or_false, forall_eq] at hv)
  | (refine St.lit2e (by first | exact st | exact st.new | exact st.new2 | exact st.new2e hb2) (by first | rfl | (simp [hb2]; done)) (by simp only [List.length_append, List.length_cons, List.length_nil, encNum_length, encText_length, encVal_length, encNums_length] <;> omega) (by first | omega | exact u8_range _ | (split <;> omega)) (by first | omega | exact u8_range _ | (split <;> omega)) (by simp only [List.length_append, List.length_cons, List.length_nil, encNum_length, encText_length, encVal_length, encNums_length] <;> omega) ?_; rintro H1 st2; try (replace hvp := hv); try (replace hcp := hcl); replace st := st2; clear st2; replace hcl := st.grew.color; replace hv := st.facts2; try simp only [List.mem_cons, List.not_mem_nil, forall_eq_or_imp, false_implies, implies_true, and_true, or_false, forall_eq] at hv)
  | (refine eitherK.raw ?_; simp [*])
  | refine T_dr (id := 7) (fun i => i = b2) [] (.free 0 (.free 1 (.free 2 (.free 3 (.free 4 (.free 5 (.sole 6 (.sole 7 (.free 8 .done))))))))) mix ?_
  | refine T_dr (id := 12) (fun i => i = b2) [] (.free 0 (.free 1 (.free 2 (.free 3 (.free 4 (.free 5 (.free 6 (.sole 7 (.sole 8 (.free 9 .done)))))))))) mix ?_
  | (refine callR (rBit _ _) ?_; rintro _ Hz ⟨rfl, hz⟩; subst Hz)
  | (refine askR (fun _ => _) (fun _ _ => rfl) (fun Hq _ => rBit Hq _) ?_)
  | refine Gs.mk (fun g => ?_) (fun g => ?_) <;> (try simp only [nm] at g) <;> try (exfalso; omega)
  | refine Gr.mk (fun g => ?_) (fun g => ?_) <;> (try simp only [nm] at g) <;> try (exfalso; omega)
  | (refine Run.of ?_; simp (maxSteps := 1000000) (disch := first | omega | assumption | (simp; done) | fail) [*, wrap_i64, idx22, idx23, idx24, DImage.row, DCell.row, DFlat.row, DJob.row, DVal.row])
 all_goals (try (refine Kx.mk ?_; have e3 := hP3.get; rw [List.take_of_length_le (by omega)] at e3; have e3l : P3.length = C := (by rw [e3, hC]); have st4 := st.less (K2 := []) (by simp); have e : ([114, 108, 121, 1] : List UInt8) ++ encText m.name ++ encNum m.cells.length ++ P ++ encNum m.codes.length ++ P2 ++ encNum m.jobs.length ++ P3 = encImage m := (by rw [e3, hP2e.get, hPe.get]; simp [encImage]); rw [e] at st4; refine owes_out (lo := H.next) (rows := (encImage m).map brow) (.inr rfl) hwf rfl (st4.outIs (by omega) (by rw [encImage_length, hA, hB, hC]; omega)) (Nat.le_refl _) (st4.ext (by omega)) (below_brow2 _)))
 all_goals first | (refine Kt_loop ⟨_, ?_, i + 1, _, P2 ++ encFlat (nth m.codes i), rfl, by omega, ⟨by rw [flat_next (by omega), hP2.get]⟩, rfl, (by first | (simp [encCell_length, encJob_length, encNum_length]; done) | (simp [encCell_length, encJob_length, encNum_length]; omega)), by simp [*], by simp [*], by rw [← List.append_assoc]; exact st⟩ <;> omega) | skip
 all_goals (try (refine Kx.mk ?_; have e3 := hP3.get; rw [List.take_of_length_le (by omega)] at e3; have e3l : P3.length = C := (by rw [e3, hC]); have st4 := st.less (K2 := []) (by simp); have e : ([114, 108, 121, 1] : List UInt8) ++ encText m.name ++ encNum m.cells.length ++ P ++ encNum m.codes.length ++ P2 ++ encNum m.jobs.length ++ P3 = encImage m := (by rw [e3, hP2e.get, hPe.get]; simp [encImage]); rw [e] at st4; refine owes_out (lo := H.next) (rows := (encImage m).map brow) (.inr rfl) hwf rfl (st4.outIs (by omega) (by rw [encImage_length, hA, hB, hC]; omega)) (Nat.le_refl _) (st4.ext (by omega)) (below_brow2 _)))
 have hP2l : P2.length = B := by rw [hP2.get, List.take_of_length_le (by omega), hB]
 have hP2e : Is P2 (m.codes.flatMap encFlat) := ⟨by rw [hP2.get, List.take_of_length_le (by omega)]⟩
 clear hP2 hroomP2 hrooP2
 refine T_lp (fun k F H' => ∃ (i mm : Nat) (P3 : List UInt8), k = m.jobs.length - i ∧ i ≤ m.jobs.length ∧ Is P3 ((m.jobs.take i).flatMap encJob) ∧ mm = 36 + m.name.size + A + B + P3.length ∧ F 3 = .msl (H.next + 1) mm 1 ∧ F 1 = .ptr H.next 1 0 0 ∧ F 7 = pi i ∧ St H (H.next + 1) (([114, 108, 121, 1] : List UInt8) ++ encText m.name ++ encNum m.cells.length ++ P ++ encNum m.codes.length ++ P2 ++ encNum m.jobs.length ++ P3) [(H.next, [DImage.row c m])] H') (m.jobs.length) ?_ ?_
 exact ⟨0, _, [], by omega, by omega, ⟨rfl⟩, rfl, by simp; try omega, by simp [*], by simp [*], by rw [List.append_nil]; exact st⟩
 rintro k F H1 ⟨i, mm, P3, rfl, hi, hP3, hm, g3, g1, g7, st⟩
 replace hcl := st.grew.color
 replace hv := st.facts2
 try simp only [List.mem_cons, List.not_mem_nil, forall_eq_or_imp, false_implies, implies_true, and_true, or_false, forall_eq] at hv
 have hroomP3 : i < m.jobs.length → P3.length + (56 + (nth m.jobs i).name.size + 8 * (nth m.jobs i).codes.length + 8 * (nth m.jobs i).bases.length) ≤ C := fun e => by have h := flat_room (f := encJob) e; rw [encJob_length] at h; rw [← hP3.get, hC] at h; omega
 have hrooP3 : P3.length ≤ C := by rw [hP3.get, ← hC]; exact flat_le
 obtain ⟨b2, hb2⟩ : ∃ b, H1.next = b := ⟨_, rfl⟩
 repeat' first
  | refine T_seq ?_
  | refine T_rgn ?_
  | refine T_cd ?_
  | refine T_sk ?_
  | refine T_rt ?_
  | refine T_block ?_
  | refine T_ex ?_
  | refine Kt_then ?_
  | refine Kt_block ?_
  | refine Kr_then ?_
  | refine Kr_block ?_
  | refine Kr_loop ?_
  | refine Ke_here ?_
  | refine Ke_then ?_
  | refine Ke_loop ?_
  | refine Ke_block ?_
  | refine Hid.mk ?_
  | (refine St.call (bs := ([114, 108, 121, 1] : List UInt8)) (St.begin begin4) (rTextS _ (by simp; omega) (St.begin begin4) rfl) ?_; rintro H1 st2; try (replace hvp := hv); try (replace hcp := hcl); replace st := st2; clear st2; replace hcl := st.grew.color; replace hv := st.facts2; try simp only [List.mem_cons, List.not_mem_nil, forall_eq_or_imp, false_implies, implies_true, and_true, or_false, forall_eq] at hv)
  | (refine St.call (by first | exact st | exact st.new | exact st.new2 | exact st.new2e hb2) (rFlatS c _ (by simp only [List.length_append, List.length_cons, List.length_nil, encNum_length, encText_length, encVal_length, encNums_length] <;> omega) (hk2 _ (nth_mem (by omega))) (by first | exact st | exact st.new | exact st.new2 | exact st.new2e hb2) (by simp only [List.length_append, List.length_cons, List.length_nil, encNum_length, encText_length, encVal_length, encNums_length] <;> omega)) ?_; rintro H1 st2; try (replace hvp := hv); try (replace hcp := hcl); replace st := st2; clear st2; replace hcl := st.grew.color; replace hv := st.facts2; try simp only [List.mem_cons, List.not_mem_nil, forall_eq_or_imp, false_implies, implies_true, and_true, or_false, forall_eq] at hv)
  | (refine St.call (by first | exact st | exact st.new | exact st.new2 | exact st.new2e hb2) (rNumsS c _ (by simp only [List.length_append, List.length_cons, List.length_nil, encNum_length, encText_length, encVal_length, encNums_length] <;> omega) (by first | exact st | exact st.new | exact st.new2 | exact st.new2e hb2) (by simp only [List.length_append, List.length_cons, List.length_nil, encNum_length, encText_length, encVal_length, encNums_length] <;> omega)) ?_; rintro H1 st2; try (replace hvp := hv); try (replace hcp := hcl); replace st := st2; clear st2; replace hcl := st.grew.color; replace hv := st.facts2; try simp only [List.mem_cons, List.not_mem_nil, forall_eq_or_imp, false_implies, implies_true, and_true, or_false, forall_eq] at hv)
  | (refine St.call (by first | exact st | exact st.new | exact st.new2 | exact st.new2e hb2) (rTextS _ (by simp only [List.length_append, List.length_cons, List.length_nil, encNum_length, encText_length, encVal_length, encNums_length] <;> omega) (by first | exact st | exact st.new | exact st.new2 | exact st.new2e hb2) (by simp only [List.length_append, List.length_cons, List.length_nil, encNum_length, encText_length, encVal_length, encNums_length] <;> omega)) ?_; rintro H1 st2; try (replace hvp := hv); try (replace hcp := hcl); replace st := st2; clear st2; replace hcl := st.grew.color; replace hv := st.facts2; try simp only [List.mem_cons, List.not_mem_nil, forall_eq_or_imp, false_implies, implies_true, and_true, or_false, forall_eq] at hv)
  | (refine St.call (by first | exact st | exact st.new | exact st.new2 | exact st.new2e hb2) (rValueS (nth m.cells i).init (by simp only [List.length_append, List.length_cons, List.length_nil, encNum_length, encText_length, encVal_length, encNums_length] <;> omega) (by omega) (by first | exact st | exact st.new | exact st.new2 | exact st.new2e hb2) (by simp only [List.length_append, List.length_cons, List.length_nil, encNum_length, encText_length, encVal_length, encNums_length] <;> omega)) ?_; rintro H1 st2; try (replace hvp := hv); try (replace hcp := hcl); replace st := st2; clear st2; replace hcl := st.grew.color; replace hv := st.facts2; try simp only [List.mem_cons, List.not_mem_nil, forall_eq_or_imp, false_implies, implies_true, and_true, or_false, forall_eq] at hv)
  | (refine St.call (by first | exact st | exact st.new | exact st.new2 | exact st.new2e hb2) (rNumS _ (by first | exact st | exact st.new | exact st.new2 | exact st.new2e hb2) (by simp only [List.length_append, List.length_cons, List.length_nil, encNum_length, encText_length, encVal_length, encNums_length] <;> omega) (by simp only [List.length_append, List.length_cons, List.length_nil, encNum_length, encText_length, encVal_length, encNums_length] <;> omega)) ?_; rintro H1 st2; try (replace hvp := hv); try (replace hcp := hcl); replace st := st2; clear st2; replace hcl := st.grew.color; replace hv := st.facts2; try simp only [List.mem_cons, List.not_mem_nil, forall_eq_or_imp, false_implies, implies_true, and_true, or_false, forall_eq] at hv)
  | (refine St.lit2e (by first | exact st | exact st.new | exact st.new2 | exact st.new2e hb2) (by first | rfl | (simp [hb2]; done)) (by simp only [List.length_append, List.length_cons, List.length_nil, encNum_length, encText_length, encVal_length, encNums_length] <;> omega) (by first | omega | exact u8_range _ | (split <;> omega)) (by first | omega | exact u8_range _ | (split <;> omega)) (by simp only [List.length_append, List.length_cons, List.length_nil, encNum_length, encText_length, encVal_length, encNums_length] <;> omega) ?_; rintro H1 st2; try (replace hvp := hv); try (replace hcp := hcl); replace st := st2; clear st2; replace hcl := st.grew.color; replace hv := st.facts2; try simp only [List.mem_cons, List.not_mem_nil, forall_eq_or_imp, false_implies, implies_true, and_true, or_false, forall_eq] at hv)
  | (refine eitherK.raw ?_; simp [*])
  | refine T_dr (id := 7) (fun i => i = b2) [] (.free 0 (.free 1 (.free 2 (.free 3 (.free 4 (.free 5 (.sole 6 (.sole 7 (.free 8 .done))))))))) mix ?_
  | refine T_dr (id := 12) (fun i => i = b2) [] (.free 0 (.free 1 (.free 2 (.free 3 (.free 4 (.free 5 (.free 6 (.sole 7 (.sole 8 (.free 9 .done)))))))))) mix ?_
  | (refine callR (rBit _ _) ?_; rintro _ Hz ⟨rfl, hz⟩; subst Hz)
  | (refine askR (fun _ => _) (fun _ _ => rfl) (fun Hq _ => rBit Hq _) ?_)
  | refine Gs.mk (fun g => ?_) (fun g => ?_) <;> (try simp only [nm] at g) <;> try (exfalso; omega)
  | refine Gr.mk (fun g => ?_) (fun g => ?_) <;> (try simp only [nm] at g) <;> try (exfalso; omega)
  | (refine Run.of ?_; simp (maxSteps := 1000000) (disch := first | omega | assumption | (simp; done) | fail) [*, wrap_i64, idx22, idx23, idx24, DImage.row, DCell.row, DFlat.row, DJob.row, DVal.row])
 all_goals (try (refine Kx.mk ?_; have e3 := hP3.get; rw [List.take_of_length_le (by omega)] at e3; have e3l : P3.length = C := (by rw [e3, hC]); have st4 := st.less (K2 := []) (by simp); have e : ([114, 108, 121, 1] : List UInt8) ++ encText m.name ++ encNum m.cells.length ++ P ++ encNum m.codes.length ++ P2 ++ encNum m.jobs.length ++ P3 = encImage m := (by rw [e3, hP2e.get, hPe.get]; simp [encImage]); rw [e] at st4; refine owes_out (lo := H.next) (rows := (encImage m).map brow) (.inr rfl) hwf rfl (st4.outIs (by omega) (by rw [encImage_length, hA, hB, hC]; omega)) (Nat.le_refl _) (st4.ext (by omega)) (below_brow2 _)))
 all_goals first | (refine Kt_loop ⟨_, ?_, i + 1, _, P3 ++ encJob (nth m.jobs i), rfl, by omega, ⟨by rw [flat_next (by omega), hP3.get]⟩, rfl, (by first | (simp [encCell_length, encJob_length, encNum_length]; done) | (simp [encCell_length, encJob_length, encNum_length]; omega)), by simp [*], by simp [*], by have st2 := st.less (K2 := [(H.next, [DImage.row c m])]) (by simp); rw [← List.append_assoc]; simpa [encJob, encNums] using st2⟩ <;> omega) | skip
 all_goals trace_state
end
section
attribute [local simp ↓] wanted_at hbind_some
attribute [local simp] Gs_true Gs_false gcond_Gr Gr_true Gr_false abox frame0 int_beq int_bne aload astore partOf Keeps Same splice aUn aFieldAddr aField aExtract aLen aBuild aBuild.go aalloc AS.Ext.refl AS.Ext.bump AS.Ext.setBox
theorem and1 (c : BitVec 32) : (c &&& 1 = 1) ↔ c.toNat % 2 = 1 := by
 have e : (c &&& 1).toNat = c.toNat % 2 := by
  rw [BitVec.toNat_and]; exact Nat.and_one_is_mod _
 constructor
 intro h; rw [← e, h]; rfl
 intro h; apply BitVec.eq_of_toNat_eq; rw [e, h]; rfl
def oddP (c : BitVec 32) : BitVec 32 := if c.getLsbD 0 then 0xedb88320 else 0
theorem step_odd (c : BitVec 32) : crcStep c = (c >>> 1) ^^^ oddP c := by
 unfold crcStep oddP
 have e : (c &&& 1 = 1) ↔ c.getLsbD 0 = true := by
  rw [and1]; simp [BitVec.getLsbD, Nat.testBit_zero]
 by_cases h : c &&& 1 = 1
 rw [if_pos h, if_pos (e.1 h)]
 rw [if_neg h, if_neg (fun h2 => h (e.2 h2))]; simp
theorem odd_xor (a b : BitVec 32) : oddP (a ^^^ b) = oddP a ^^^ oddP b := by
 unfold oddP
 rw [BitVec.getLsbD_xor]
 cases a.getLsbD 0 <;> cases b.getLsbD 0 <;> simp
theorem step_xor (a b : BitVec 32) : crcStep (a ^^^ b) = crcStep a ^^^ crcStep b := by
 rw [step_odd, step_odd, step_odd, odd_xor, BitVec.ushiftRight_xor_distrib]
 simp only [BitVec.xor_assoc]
 congr 1
 rw [← BitVec.xor_assoc, BitVec.xor_comm (b >>> 1) (oddP a), BitVec.xor_assoc]
theorem rep_xor (a b : BitVec 32) : ∀ n, rep crcStep n (a ^^^ b) = rep crcStep n a ^^^ rep crcStep n b
 | 0 => rfl
 | n + 1 => by show crcStep _ = _; rw [rep_xor a b n, step_xor]; rfl
theorem rep_high (h : BitVec 32) (hz : ∀ i, i < 8 → h.getLsbD i = false) : ∀ n, n ≤ 8 → rep crcStep n h = h >>> n
 | 0, _ => by show h = _; simp
 | n + 1, hn => by
  show crcStep _ = _
  rw [rep_high h hz n (by omega), step_odd]
  have : oddP (h >>> n) = 0 := by
   unfold oddP
   rw [BitVec.getLsbD_ushiftRight, Nat.add_zero, hz n (by omega)]; rfl
  rw [this, BitVec.shiftRight_add]; simp
theorem next_rep (c : BitVec 32) (x : UInt8) : crcNext c x = rep crcStep 8 (c ^^^ BitVec.ofNat 32 x.toNat) := by
 have hx := x.toNat_lt
 have e : c ^^^ BitVec.ofNat 32 x.toNat = BitVec.ofNat 32 (xorByte (lowByte c) x).toNat ^^^ ((c >>> 8) <<< 8) := by
  apply BitVec.eq_of_getLsbD_eq
  intro i hi
  unfold xorByte lowByte
  simp only [BitVec.getLsbD_xor, BitVec.getLsbD_shiftLeft, BitVec.getLsbD_ushiftRight, UInt8.toNat_xor, BitVec.getLsbD_ofNat, Nat.testBit_xor, UInt8.toNat_ofNat']
  by_cases h8 : i < 8
  ·have : Nat.testBit (c.toNat % 2 ^ 8) i = c.getLsbD i := by
    rw [Nat.testBit_mod_two_pow]; simp [h8, BitVec.getLsbD]
   simp [hi, h8, this]
  ·have h1 : Nat.testBit (c.toNat % 2 ^ 8) i = false := by rw [Nat.testBit_mod_two_pow]; simp [h8]
   have h2 : Nat.testBit x.toNat i = false := Nat.testBit_lt_two_pow (Nat.lt_of_lt_of_le hx (Nat.pow_le_pow_right (by decide) (by omega : 8 ≤ i)))
   simp [hi, h8, h1, h2, show 8 + (i - 8) = i by omega]
 rw [e, rep_xor, rep_high ((c >>> 8) <<< 8) (fun i hi => by rw [BitVec.getLsbD_shiftLeft]; simp [hi]) 8 (by decide)]
 unfold crcNext tabOf
 rw [BitVec.xor_comm]
 congr 1
 apply BitVec.eq_of_getLsbD_eq
 intro i hi
 simp only [BitVec.getLsbD_ushiftRight, BitVec.getLsbD_shiftLeft]
 by_cases h : 8 + i < 32
 simp [h]
 simp [h]
 rw [BitVec.getLsbD_of_ge _ _ (by omega)]
theorem bin_rem2 (P : Program) (t : TypeId) (c : BitVec 32) : aBin P .rem t (v32 c) (.val (.int .u32 2)) = some (.val (.int .u32 (c.toNat % 2 : Nat))) := by
 have hc := c.isLt
 have e : IntKind.u32.wrap ((c.toNat : Int).tmod 2) = ((c.toNat % 2 : Nat) : Int) := by
  rw [Int.tmod_eq_emod_of_nonneg (by omega)]
  show (c.toNat : Int) % 2 % 4294967296 = _
  omega
 simp [aBin, aBinV, v32]
 exact Int.tmod_eq_emod_of_nonneg (by omega)
theorem bin_quo2 (P : Program) (t : TypeId) (c : BitVec 32) : aBin P .quo t (v32 c) (.val (.int .u32 2)) = some (v32 (c >>> 1)) := by
 have hc := c.isLt
 have e : IntKind.u32.wrap ((c.toNat : Int).tdiv 2) = ((c >>> 1).toNat : Int) := by
  rw [Int.tdiv_eq_ediv_of_nonneg (by omega), BitVec.toNat_ushiftRight, Nat.shiftRight_eq_div_pow]
  show (c.toNat : Int) / 2 % 4294967296 = _
  omega
 simp [aBin, aBinV, v32]
 rw [Int.shiftRight_eq_div_pow]
 show (c.toNat : Int) / 2 % 4294967296 = (c.toNat : Int) / 2
 omega
theorem bin_xorP (P : Program) (t : TypeId) (c : BitVec 32) : aBin P .xor t (v32 c) (.val (.int .u32 3988292384)) = some (v32 (c ^^^ 0xedb88320)) := bin_xor32v P t c 0xedb88320
theorem bin_xorF (P : Program) (t : TypeId) (c : BitVec 32) : aBin P .xor t (v32 c) (.val (.int .u32 4294967295)) = some (v32 (~~~c)) := by
 have := bin_xor32v P t c (BitVec.allOnes 32)
 rw [BitVec.xor_allOnes] at this
 exact this
theorem conv_up (b : UInt8) : aConvert Tryz.prog 5 65 (.val (.int .u8 (b.toNat : Int))) = some (v32 (BitVec.ofNat 32 b.toNat)) := by
 have := b.toNat_lt
 simp [aConvert, v32]
 show (b.toNat : Int) % 4294967296 = _
 omega
theorem ones32 : PV.val (.int .u32 4294967295) = v32 (BitVec.allOnes 32) := rfl
theorem idx28F (c : Nat) (bs : List UInt8) (i : Int) (h0 : 0 ≤ i) (h1 : i < (bs.length : Int)) : aIndexAddr Tryz.prog 28 (PV.sl c 1 (bs.map brow)) (pi i) = some (.rptr c (brow (nth bs i))) := idx_list (e := 5) (by kernel_rfl) (by kernel_rfl) _ _ _ h0 h1
theorem fold_next {bs : List UInt8} {i : Nat} (h : i < bs.length) : crcFold (bs.take (i + 1)) = rep crcStep 8 (crcFold (bs.take i) ^^^ BitVec.ofNat 32 (nth bs (i : Int)).toNat) := by
 rw [crcFold_take h, next_rep, nth_get _ _ h]
theorem rep_odd {c : BitVec 32} {n : Nat} (h : (rep crcStep n c).toNat % 2 = 1) : rep crcStep (n + 1) c = (rep crcStep n c >>> 1) ^^^ 0xedb88320 := crcStep_pos ((and1 _).2 h)
theorem rep_even {c : BitVec 32} {n : Nat} (h : ¬ (rep crcStep n c).toNat % 2 = 1) : rep crcStep (n + 1) c = rep crcStep n c >>> 1 := crcStep_neg (fun h2 => h ((and1 _).1 h2))
theorem bin_lss (P : Program) (t : TypeId) (a b : Int) : aBin P .lss t (pi a) (pi b) = some (pb (decide (a < b))) := by simp [aBin, aBinV]
theorem bin_add (P : Program) (t : TypeId) (a b : Int) : aBin P .add t (pi a) (pi b) = some (pi (IntKind.i64.wrap (a + b))) := by simp [aBin, aBinV]
theorem bin_odd (P : Program) (t : TypeId) (a b : Int) : aBin P .eql t (.val (.int .u32 a)) (.val (.int .u32 b)) = some (pb (decide (a = b))) := by simp [aBin, aBinV, int_beq]
attribute [local simp] bin_rem2 bin_quo2 bin_xorP bin_xorF bin_xor32v conv_up bin_lss bin_add bin_odd
theorem rSum (H : AS) (c : Nat) (bs : List UInt8) (hs : bs.length ≤ 2 ^ 46) : ACalls Tryz.prog 70 [PV.sl c 1 (bs.map brow)] H fun q H' => q = v32 (crc bs) ∧ H' = H := by
 refine ACalls_intro Tryz.func70 rfl (by kernel_rfl) (by simp) fun hwf hbel => ?_
 repeat' first
  | refine T_seq ?_
  | refine T_rgn ?_
  | refine T_cd ?_
  | refine T_sk ?_
  | refine T_rt ?_
  | refine T_block ?_
  | refine T_ex ?_
  | refine Kt_then ?_
  | refine Kt_block ?_
  | refine Kr_then ?_
  | refine Kr_block ?_
  | refine Ke_here ?_
  | refine Ke_then ?_
  | refine Hid.mk ?_
  | refine Gs.mk (fun g => ?_) (fun g => ?_) <;> (try simp only [nm] at g) <;> try (exfalso; omega)
  | refine Gr.mk (fun g => ?_) (fun g => ?_) <;> (try simp only [nm] at g) <;> try (exfalso; omega)
  | (refine Run.of ?_; simp (maxSteps := 1000000) (disch := first | omega | assumption | (simp; done) | fail) [*, idx28F, brow, wrap_i64])
 all_goals (try (refine Kx.mk ?_; obtain rfl : i = bs.length := (by omega); refine owes_one (.inr rfl) hwf rfl ?_ ?_ ?_ ?_ <;> (try simp [crc, *])))
 refine T_lp (fun k F H' => ∃ i : Nat, k = bs.length - i ∧ i ≤ bs.length ∧ F 0 = PV.sl c 1 (bs.map brow) ∧ F 3 = v32 (crcFold (bs.take i)) ∧ F 4 = pi i ∧ H = H') (bs.length) ?_ ?_
 exact ⟨0, by omega, by omega, by simp [*], by simp [ones32, crcFold], by simp [*], rfl⟩
 rintro k F H1 ⟨i, rfl, hi, g0, g3, g4, rfl⟩
 repeat' first
  | refine T_seq ?_
  | refine T_rgn ?_
  | refine T_cd ?_
  | refine T_sk ?_
  | refine T_rt ?_
  | refine T_block ?_
  | refine T_ex ?_
  | refine Kt_then ?_
  | refine Kt_block ?_
  | refine Kr_then ?_
  | refine Kr_block ?_
  | refine Kr_loop ?_
  | refine Ke_here ?_
  | refine Ke_then ?_
  | refine Ke_loop ?_
  | refine Ke_block ?_
  | refine Hid.mk ?_
  | refine Gs.mk (fun g => ?_) (fun g => ?_) <;> (try simp only [nm] at g) <;> try (exfalso; omega)
  | refine Gr.mk (fun g => ?_) (fun g => ?_) <;> (try simp only [nm] at g) <;> try (exfalso; omega)
  | (refine Run.of ?_; simp (maxSteps := 1000000) (disch := first | omega | assumption | (simp; done) | fail) [*, idx28F, brow, wrap_i64])
 all_goals (try (refine Kx.mk ?_; obtain rfl : i = bs.length := (by omega); refine owes_one (.inr rfl) hwf rfl ?_ ?_ ?_ ?_ <;> (try simp [crc, *])))
 all_goals first | (refine Kt_loop ⟨_, ?_, i + 1, rfl, by omega, by simp [*], by simp [*], by simp [*], rfl⟩ <;> omega) | skip
 all_goals (try (refine Kx.mk ?_; obtain rfl : i = bs.length := (by omega); refine owes_one (.inr rfl) hwf rfl ?_ ?_ ?_ ?_ <;> (try simp [crc, *])))
 refine T_lp (fun k F H' => ∃ j : Nat, k = 8 - j ∧ j ≤ 8 ∧ F 0 = PV.sl c 1 (bs.map brow) ∧ F 3 = v32 (rep crcStep j (crcFold (bs.take i) ^^^ BitVec.ofNat 32 (nth bs i).toNat)) ∧ F 4 = pi i ∧ F 5 = pi j ∧ H = H') (8) ?_ ?_
 exact ⟨0, by omega, by omega, by simp [*], by simp [*, rep], by simp [*], by simp [*], rfl⟩
 rintro k F H1 ⟨j, rfl, hj, g0, g3, g4, g5, rfl⟩
 repeat' first
  | refine T_seq ?_
  | refine T_rgn ?_
  | refine T_cd ?_
  | refine T_sk ?_
  | refine T_rt ?_
  | refine T_block ?_
  | refine T_ex ?_
  | refine Kt_then ?_
  | refine Kt_block ?_
  | refine Kr_then ?_
  | refine Kr_block ?_
  | refine Kr_loop ?_
  | refine Ke_here ?_
  | refine Ke_then ?_
  | refine Ke_loop ?_
  | refine Ke_block ?_
  | refine Hid.mk ?_
  | refine Gs.mk (fun g => ?_) (fun g => ?_) <;> (try simp only [nm] at g) <;> try (exfalso; omega)
  | refine Gr.mk (fun g => ?_) (fun g => ?_) <;> (try simp only [nm] at g) <;> try (exfalso; omega)
  | (refine Run.of ?_; simp (maxSteps := 1000000) (disch := first | omega | assumption | (simp; done) | fail) [*, idx28F, brow, wrap_i64])
 all_goals (try (refine Kx.mk ?_; obtain rfl : i = bs.length := (by omega); refine owes_one (.inr rfl) hwf rfl ?_ ?_ ?_ ?_ <;> (try simp [crc, *])))
 all_goals first | (refine Kt_loop ⟨_, ?_, j + 1, rfl, by omega, by simp [*], by first | (rw [rep_odd (by omega)]; simp [*]; done) | (rw [rep_even (by omega)]; simp [*]; done), by simp [*], by simp [*], rfl⟩ <;> omega) | (refine Kt_loop ⟨_, ?_, i + 1, rfl, by omega, by simp [*], by rw [fold_next (by omega)]; (obtain rfl : j = 8 := by omega); simp [*], by simp [*], rfl⟩ <;> omega) | skip
 all_goals trace_state
end
section
attribute [local simp ↓] wanted_at hbind_some
attribute [local simp] Gs_true Gs_false gcond_Gr Gr_true Gr_false abox frame0 int_beq int_bne aload astore partOf Keeps Same splice aUn aFieldAddr aField aBin aBinV aConvert aExtract aLen aBuild aBuild.go aalloc AS.Ext.refl AS.Ext.bump AS.Ext.setBox
theorem appNil {H : AS} {c : Nat} {bs : List UInt8} {k : PV → AS → Prop} (hne : bs ≠ []) (hs : bs.length ≤ 2 ^ 46) (hk : ∀ H', St H H.next bs [] H' → H.color = H'.color → Run (k (.msl H.next bs.length 1) H')) : @appendK Tryz.prog H 28 28 (.val (.slice none 0 0)) (PV.sl c 1 (bs.map brow)) ⟨k⟩ := by
 refine appR (.inl ?_)
 unfold aappendX
 simp only [under28, size5, zero5, bytes5, srcOfT_slice, srcOf_sl, fzR]
 have hf : frzR H (bs.map brow) = (bs.map brow, H) := frzR_id (by simp [brow])
 have hl : ¬ (bs.map brow).length = 0 := by simp [hne]
 simp only [if_true, hf, if_neg hl]
 refine ⟨by simp, .inl (by simp; omega), ?_⟩
 rw [List.length_map]
 refine hk _ ⟨by simp, by simp, ⟨by simp, rfl, fun j a b => by simp [b], fun j => rfl⟩, fun x hx => by cases hx⟩ rfl
theorem St.lit4 {H0 H : AS} {id n j : Nat} {bs : List UInt8} {K : List (Nat × List (List PV))} {k : PV → AS → Prop} {v u w x : Int} (h : St H0 id bs K H) (e : H.next = j) (hn : n = bs.length) (hv : 0 ≤ v ∧ v < 256) (hu : 0 ≤ u ∧ u < 256) (hw : 0 ≤ w ∧ w < 256) (hx : 0 ≤ x ∧ x < 256) (hs : bs.length + 4 ≤ 2 ^ 46) (hk : ∀ H', St H0 id (bs ++ [byteOf v, byteOf u, byteOf w, byteOf x]) K H' → Run (k (.msl id (n + 4) 1) H')) : @appendK Tryz.prog ((H.setBox j [[.val (.int .u8 v)], [.val (.int .u8 u)], [.val (.int .u8 w)], [.val (.int .u8 x)]]).bump 1) 28 28 (.msl id n 1) (.msl j 4 1) ⟨k⟩ := by
 subst e
 subst hn
 have hl := h.lt
 have eb : ∀ y : Int, 0 ≤ y ∧ y < 256 → brow (byteOf y) = [.val (.int .u8 y)] := fun y hy => by
  unfold brow; rw [byteOf_toNat]; rw [Int.emod_eq_of_lt hy.1 hy.2]
 refine appR (.inl ?_)
 unfold aappendX
 have hf : ∀ H, frzR H [[.val (.int .u8 v)], [.val (.int .u8 u)], [.val (.int .u8 w)], [.val (.int .u8 x)]] = ([[.val (.int .u8 v)], [.val (.int .u8 u)], [.val (.int .u8 w)], [.val (.int .u8 x)]], H) := fun H => frzR_id (by simp)
 simp [under28, size5, zero5, bytes5, srcOfT, srcOf, fzR, hf, h.out, show ¬ id = H.next by omega]
 have e4 : bs.map brow ++ [[.val (.int .u8 v)], [.val (.int .u8 u)], [.val (.int .u8 w)], [.val (.int .u8 x)]] = (bs ++ [byteOf v, byteOf u, byteOf w, byteOf x]).map brow := by simp [eb, hv, hu, hw, hx]
 rw [e4]
 exact ⟨.inl (by simp; omega), hk _ (h.step ((Grew.refl.set2 (Nat.le_refl _)).bump.set) (boxSelf _ _ _))⟩
theorem low_at (c : BitVec 32) (d : Nat) : byteOf (((c.toNat / d : Nat) : Int)) = UInt8.ofNat (c.toNat / d) := by
 unfold byteOf
 apply UInt8.toNat_inj.1
 rw [UInt8.toNat_ofNat', UInt8.toNat_ofNat']; omega
theorem le4_bytes (c : BitVec 32) : le4 c = [byteOf c.toNat, byteOf ((c.toNat / 256 : Nat) : Int), byteOf ((c.toNat / 65536 : Nat) : Int), byteOf ((c.toNat / 16777216 : Nat) : Int)] := by
 rw [le4_eq, low_at, low_at, low_at, show ((c.toNat : Nat) : Int) = ((c.toNat / 1 : Nat) : Int) by simp, low_at]
 unfold lowByte
 simp only [BitVec.toNat_ushiftRight, Nat.shiftRight_eq_div_pow, Nat.div_one]
theorem byte_mod (x : Int) : byteOf (x % 256) = byteOf x := by unfold byteOf; rw [Int.emod_emod]
theorem below_brow {n : Nat} (l : List UInt8) : ∀ r ∈ l.map brow, ∀ p ∈ r, Below n p := by
 intro r hr p hp
 obtain ⟨b, -, rfl⟩ := List.mem_map.1 hr
 obtain rfl := List.mem_singleton.1 hp
 exact .val _
theorem byte_tmod (x : Int) (h : 0 ≤ x) : byteOf (x.tmod 256) = byteOf x := by rw [Int.tmod_eq_emod_of_nonneg h, byte_mod]
theorem wu32 (x : Int) : IntKind.u32.wrap x = x % 4294967296 := rfl
theorem le4_form (c : BitVec 32) : [byteOf (IntKind.u8.wrap ((c.toNat : Int).tmod 256)), byteOf (IntKind.u8.wrap ((IntKind.u32.wrap ((c.toNat : Int) / 256)).tmod 256)), byteOf (IntKind.u8.wrap ((IntKind.u32.wrap ((c.toNat : Int) / 65536)).tmod 256)), byteOf (IntKind.u8.wrap (IntKind.u32.wrap ((c.toNat : Int) / 16777216)))] = le4 c := by
 have hc := c.isLt
 rw [le4_bytes]
 simp only [byte_wrap]
 rw [byte_tmod _ (by omega), byte_tmod _ (by rw [wu32]; omega), byte_tmod _ (by rw [wu32]; omega), wu32, wu32, wu32]
 rw [show (c.toNat : Int) / 256 % 4294967296 = ((c.toNat / 256 : Nat) : Int) by omega, show (c.toNat : Int) / 65536 % 4294967296 = ((c.toNat / 65536 : Nat) : Int) by omega, show (c.toNat : Int) / 16777216 % 4294967296 = ((c.toNat / 16777216 : Nat) : Int) by omega]
theorem St.ext0 {H0 H : AS} {id : Nat} {bs : List UInt8} {K : List (Nat × List (List PV))} (h : St H0 id bs K H) (hid : H0.next ≤ id) : H0.Ext H :=
 ⟨h.grew.next, fun j hj => h.grew.box j hj (by omega), fun j _ => h.grew.mp j, h.grew.color⟩
theorem St.out0 {H0 H : AS} {id n : Nat} {bs : List UInt8} {K : List (Nat × List (List PV))} (h : St H0 id bs K H) (hid : H0.next ≤ id) (hn : n = bs.length) : OutIs H0.next H (.msl id n 1) 1 (bs.map brow) :=
 .inr ⟨id, hid, h.lt, by rw [hn, List.length_map], h.out⟩
theorem rSummed (H : AS) (c : Nat) (bs : List UInt8) (hne : bs ≠ []) (hs : bs.length ≤ 2 ^ 45) : ACalls Tryz.prog 33 [PV.sl c 1 (bs.map brow)] H fun q H' => q = PV.sl H.color 1 ((bs ++ le4 (crc bs)).map brow) ∧ H' = H := by
 refine ACalls_intro Tryz.func33 rfl (by kernel_rfl) (by simp) fun hwf hbel => ?_
 repeat' first
  | refine T_seq ?_
  | refine T_rgn ?_
  | refine T_cd ?_
  | refine T_sk ?_
  | refine T_rt ?_
  | refine T_block ?_
  | refine T_ex ?_
  | refine Kt_then ?_
  | refine Kt_block ?_
  | refine Kr_then ?_
  | refine Kr_block ?_
  | refine Ke_here ?_
  | refine Ke_then ?_
  | refine Hid.mk ?_
  | (refine callR (rSum _ _ _ (by omega)) ?_; rintro _ Hz ⟨rfl, hz⟩; subst Hz)
  | (refine appNil hne (by omega) ?_; rintro H1 st hcl)
  | (refine St.lit4 (by first | exact st | exact st.new) (by first | rfl | (simp; done)) rfl (u8_range _) (u8_range _) (u8_range _) (u8_range _) (by omega) ?_; rintro H1 st)
  | (refine eitherK.raw ?_; simp)
  | refine Gs.mk (fun g => ?_) (fun g => ?_) <;> (try simp only [nm] at g)
  | refine Gr.mk (fun g => ?_) (fun g => ?_) <;> (try simp only [nm] at g)
  | (refine Run.of ?_; simp (maxSteps := 1000000) (disch := first | omega | assumption | (simp; done) | fail) [*, v32])
 all_goals (refine Kx.mk ?_; rw [le4_form] at st; refine owes_out (lo := H.next) (rows := (bs ++ le4 (crc bs)).map brow) (.inr rfl) hwf rfl (st.out0 (Nat.le_refl _) (by simp [le4_length])) (Nat.le_refl _) (st.ext0 (Nat.le_refl _)) (below_brow _))
end
theorem mem_addTo {av : List ByteArray} {s t : ByteArray} (h : memB av t = true ∨ t = s) : memB (addTo av s) t = true := by
 unfold addTo
 by_cases e : memB av s = true
 rw [if_pos e]
 rcases h with h | rfl
 exact h
 exact e
 rw [if_neg e, memB_iff]
 rcases h with h | rfl
 exact List.mem_append_left _ (memB_iff.1 h)
 exact List.mem_append_right _ (List.mem_singleton.2 rfl)
theorem mem_addrs (m : DImage) : ∀ i, i ≤ m.cells.length → ∀ j : Nat, j < i → ¬ (nth m.cells (j : Int)).addr = ⟨#[]⟩ → memB (addrs m i) (nth m.cells (j : Int)).addr = true
 | 0, _, j, hj, _ => by omega
 | i + 1, hi, j, hj, hne => by
  rw [addrs_succ (by omega)]
  unfold addrStep
  by_cases e : j = i
  ·subst e
   rw [if_neg hne]
   exact mem_addTo (.inr rfl)
  ·have ih := mem_addrs m i (by omega) j (by omega) hne
   split
   ·exact ih
   ·exact mem_addTo (.inl ih)
theorem not_contains {js : List DJob} {j : DJob} (h : ¬ containsN js j = true) : ∀ x ∈ js, ¬ x.name = j.name := by
 intro x hx e
 apply h
 have h2 : ¬ js.all (fun x => !sameName x j) = true := fun ha => by
  have := List.all_eq_true.1 ha x hx
  simp [sameName, e] at this
 unfold containsN idxN
 rw [if_neg h2, if_pos (by omega)]
theorem checkF {m : DImage} (h : m.In) (hc : checkE m = 0) : CheckF m := by
 obtain ⟨h1, h2, h3, h4, h5, h6, h7⟩ := check_ok hc
 refine ⟨h1, h2, h3, h4, fun i hi => ?_, fun i hi => ?_, fun i hi p hp => ?_, fun i hi => ?_⟩
 have h8 := h5 i hi
 unfold cellE at h8
 split at h8
 rename_i e
 have ht := h.typed.cells _ (nth_mem hi)
 refine ⟨_, e, ⟨ht.init.bits.1, ht.init.bits.2⟩, h.addr _ (nth_mem hi), fun hne j hj e2 => ?_⟩
 have h9 := ((cellB_facts e).2.2.2.2.2.2.2.2 hne).2.2.2.2
 rw [← e2, mem_addrs m i (by omega) j hj (by rw [e2]; exact hne)] at h9
 cases h9
 cases h8
 have h8 := codes_ok h6 i hi
 unfold codeE at h8
 split at h8
 rename_i e1
 split at h8
 rename_i e2
 split at h8
 cases h8
 split at h8
 cases h8
 have := tot_ge hi
 exact ⟨e1, e2, by omega, by omega, by omega⟩
 cases h8
 cases h8
 have h8 := codes_ok h6 i hi
 unfold codeE at h8
 split at h8
 split at h8
 split at h8
 cases h8
 split at h8
 cases h8
 split at h8
 rename_i e
 have h9 := List.all_eq_true.1 e _ (nth_mem hp)
 have ho := (h.typed.codes _ (nth_mem hi)).ops _ (nth_mem hp)
 unfold opsB at h9
 split at h9
 rename_i e9
 exact ⟨e9, ⟨ho.value.bits.1, ho.value.bits.2⟩, ⟨ho.lo.1, ho.lo.2⟩, ⟨ho.hi.1, ho.hi.2⟩⟩
 cases h9
 cases h8
 cases h8
 cases h8
 have h8 := h7 i hi
 unfold jobE at h8
 split at h8
 rename_i e1
 split at h8
 cases h8
 rename_i e2
 split at h8
 rename_i e3
 refine ⟨e1, e3, fun k hk e => ?_⟩
 refine not_contains e2 (nth m.jobs (k : Int)) ?_ e
 unfold takeJ
 rw [nth_get _ _ (by omega)]
 exact List.mem_take_iff_getElem.2 ⟨k, by omega, rfl⟩
 cases h8
 cases h8
section
attribute [local simp ↓] wanted_at hbind_some
attribute [local simp] Gs_true Gs_false gcond_Gr Gr_true Gr_false abox frame0 int_beq int_bne aload astore partOf Keeps Same splice aUn aFieldAddr aField aBin aBinV aConvert aExtract aLen aBuild aBuild.go aalloc AS.Ext.refl AS.Ext.bump AS.Ext.setBox
theorem fsl (c sz : Nat) (rows : List (List PV)) (cs : List PV) : ¬ PV.sl c sz rows = .agg cs := by cases rows <;> simp [PV.sl]
theorem rEncode (H : AS) (c : Nat) (m : DImage) (hm : m.In) (hc : checkE m = 0) (hl : (encFile m).length ≤ 4194304) : ACalls Tryz.prog 13 [.agg (m.row c)] H fun q H' => q = .tuple [PV.sl H.color 1 ((encFile m).map brow), pi 0] ∧ H' = H := by
 refine ACalls_intro Tryz.func13 rfl (by kernel_rfl) (by simp) fun hwf hbel => ?_
 have hel : (encFile m).length = (encImage m).length + 4 := by unfold encFile; rw [List.length_append, le4_length]
 have hk1 : ∀ x ∈ m.cells, 0 ≤ x.kind ∧ x.kind < 256 ∧ 0 ≤ x.init.kind ∧ x.init.kind < 256 := fun x hx => by
  have := hm.typed.cells x hx
  exact ⟨this.kind.1, this.kind.2, this.init.kind.1, this.init.kind.2⟩
 have hk2 : ∀ f ∈ m.codes, ∀ o ∈ f.ops, 0 ≤ o.value.kind ∧ o.value.kind < 256 := fun f hf o ho => by
  have := ((hm.typed.codes f hf).ops o ho).value.kind
  exact ⟨this.1, this.2⟩
 repeat' first
  | refine T_seq ?_
  | refine T_rgn ?_
  | refine T_cd ?_
  | refine T_sk ?_
  | refine T_rt ?_
  | refine T_block ?_
  | refine T_ex ?_
  | refine Kt_then ?_
  | refine Kt_block ?_
  | refine Kr_then ?_
  | refine Kr_block ?_
  | refine Ke_here ?_
  | refine Ke_then ?_
  | refine Hid.mk ?_
  | (refine callR (rCheck _ c m (checkF hm hc)) ?_; rintro _ Hz ⟨rfl, hz⟩; subst Hz)
  | (refine callR (rBody _ c m _ _ _ rfl rfl rfl (by have := encImage_length m; omega) hk1 hk2) ?_; rintro _ Hz ⟨rfl, hz⟩; subst Hz)
  | (refine callR (rSummed _ _ (encImage m) (encImage_ne m) (by omega)) ?_; rintro _ Hz ⟨rfl, hz⟩; subst Hz)
  | refine Gs.mk (fun g => ?_) (fun g => ?_) <;> (try simp only [nm] at g) <;> try (exfalso; omega)
  | refine Gr.mk (fun g => ?_) (fun g => ?_) <;> (try simp only [nm] at g) <;> try (exfalso; omega)
  | (refine Run.of ?_; simp (maxSteps := 1000000) (disch := first | omega | assumption | (simp; done) | fail) [*, DImage.row, le4_length])
 all_goals (refine Kx.mk ?_; refine owes_vals (qs := [PV.sl H.color 1 ((encFile m).map brow), pi 0]) (.inr rfl) hwf rfl rfl (by simp [encFile]) ?_ ?_ ?_; (· exact .bump (.setBox (Nat.le_refl _) (.refl _))); (· simp [Plain1, fsl]); (· simp; exact fun a ha => below_brow [a] _ (by simp)))
end
theorem clean_out {n d sz : Nat} {H : AS} {p : PV} {rows : List (List PV)} (h : OutIs n H p sz rows) : Clean n d p := by
 rcases h with ⟨-, rfl⟩ | ⟨id, h1, -, rfl, -⟩
 exact .val _
 exact .msl h1
theorem clean_pl {n d : Nat} {l : List PV} (h : ∀ q ∈ l, ∃ v, q = .val v) : ∀ q ∈ l, Clean n d q := fun q hq => by
 obtain ⟨v, rfl⟩ := h q hq; exact .val _
theorem val_cell (x : DCell) : ∀ q ∈ x.row, ∃ v, q = PV.val v := by simp [DCell.row]
theorem val_op (x : DOp) : ∀ q ∈ x.row, ∃ v, q = PV.val v := by simp [DOp.row]
theorem val_loop (x : DLoop) : ∀ q ∈ x.row, ∃ v, q = PV.val v := by simp [DLoop.row]
theorem val_int (x : Int) : ∀ q ∈ irow x, ∃ v, q = PV.val v := by simp [irow]
theorem clean_map {α : Type} {n d : Nat} {R : α → List PV} {xs : List α} (h : ∀ x, ∀ q ∈ R x, ∃ v, q = PV.val v) : ∀ r ∈ xs.map R, ∀ q ∈ r, Clean n d q := fun r hr => by
 obtain ⟨x, -, rfl⟩ := List.mem_map.1 hr
 exact clean_pl (h x)
theorem out_clean {d sz : Nat} {H H' : AS} {p : PV} {rows : List (List PV)} (hn : H.next ≤ H'.next) (h : OutIs H.next H' p sz rows) (hc : ∀ r ∈ rows, ∀ q ∈ r, Clean H.next d q) : OutIs H.next (H.join (H'.cleaned H.next d)) p sz rows := by
 rcases h with ⟨h1, rfl⟩ | ⟨id, h1, h2, rfl, h4⟩
 exact .inl ⟨h1, rfl⟩
 exact .inr ⟨id, h1, by simpa using h2, rfl, by rw [join_new h1]; exact cleaned_keep h4 hc⟩
theorem list_clean {α : Type} {E : Nat → AS → List PV → α → Prop} {d sz hi : Nat} {H H' : AS} {p : PV} {xs : List α} (hn : H.next ≤ H'.next)
  (hE : ∀ row x, E H.next H' row x → (∀ q ∈ row, Clean H.next d q) ∧ E H.next (H.join (H'.cleaned H.next d)) row x) (h : ListAt E sz H.next hi H' p xs) : ListAt E sz H.next hi (H.join (H'.cleaned H.next d)) p xs := by
 obtain ⟨rows, h1, h2, h3, h4, h5, h6⟩ := h
 have at_ : ∀ (i : Nat) (row : List PV), rows[i]? = some row → ∃ x, xs[i]? = some x := fun i row hr => get_of_lt (by rw [← h2]; exact (List.getElem?_eq_some_iff.1 hr).1)
 refine ⟨rows, out_clean hn h1 fun r hr => ?_, h2, by simpa using h3, h4, fun i row x hr hx => ⟨(hE _ _ (h5 i row x hr hx).1).2, (h5 i row x hr hx).2⟩, h6⟩
 obtain ⟨i, hi, rfl⟩ := List.getElem_of_mem hr
 obtain ⟨x, hx⟩ := at_ i _ (List.getElem?_eq_getElem hi)
 exact (hE _ _ (h5 i _ x (List.getElem?_eq_getElem hi) hx).1).1
theorem img_clean {d hi : Nat} {H H' : AS} {row : List PV} {m : DImage} (hn : H.next ≤ H'.next) (h : ImgAt H.next hi H' row m) : (∀ q ∈ row, Clean H.next d q) ∧ ImgAt H.next hi (H.join (H'.cleaned H.next d)) row m := by
 obtain ⟨p1, p2, p3, rfl, h1, h2, h3⟩ := h
 refine ⟨fun q hq => ?_, p1, p2, p3, rfl, list_clean hn (fun row x e => ?_) h1, list_clean hn (fun row x e => ?_) h2, list_clean hn (fun row x e => ?_) h3⟩
 simp only [List.mem_cons, List.not_mem_nil, or_false] at hq
 obtain ⟨_, g1, _⟩ := h1
 obtain ⟨_, g2, _⟩ := h2
 obtain ⟨_, g3, _⟩ := h3
 rcases hq with rfl | rfl | rfl | rfl
 exact .val _
 exact clean_out g1
 exact clean_out g2
 exact clean_out g3
 subst e; exact ⟨clean_pl (val_cell x), rfl⟩
 obtain ⟨p, q, rfl, g1, g2⟩ := e
 refine ⟨fun y hy => ?_, p, q, rfl, out_clean hn g1 (clean_map val_op), out_clean hn g2 (clean_map val_loop)⟩
 simp only [frow, List.mem_cons, List.not_mem_nil, or_false] at hy
 rcases hy with rfl | rfl | rfl | rfl | rfl | rfl | rfl | rfl
 iterate 6 exact .val _
 exact clean_out g1
 exact clean_out g2
 obtain ⟨p, q, rfl, g1, g2⟩ := e
 refine ⟨fun y hy => ?_, p, q, rfl, out_clean hn g1 (clean_map val_int), out_clean hn g2 (clean_map val_int)⟩
 simp only [jrow, List.mem_cons, List.not_mem_nil, or_false] at hy
 rcases hy with rfl | rfl | rfl | rfl | rfl | rfl | rfl
 iterate 4 exact .val _
 exact clean_out g1
 exact clean_out g2
 exact .val _
theorem bytes_fz {H : AS} {j d : Nat} {bs : List UInt8} (hj : H.box j = some (bs.map brow)) (hl : j < H.next) : FzAll H d [.msl j bs.length 1] [PV.sl d 1 (bs.map brow)] := by
 refine ⟨fz_out (lo := 0) d (.inr ⟨j, Nat.zero_le _, hl, by rw [List.length_map], hj⟩) fun r hr q hq => ?_, trivial⟩
 obtain ⟨b, -, rfl⟩ := List.mem_map.1 hr
 obtain rfl := List.mem_singleton.1 hq
 exact .val _
theorem decodeT (H : AS) (j : Nat) (bs : List UInt8) (hj : H.box j = some (bs.map brow)) (hl : j < H.next) (hb : bs.length < 2 ^ 62) (hD : DecOk bs) :
  ACalls Tryz.prog 11 [.msl j bs.length 1] H fun q H' => ∃ row, q = .tuple [.agg row, pi 0, pi 0] ∧ ImgAt H.next H'.next H' row (rdAll bs).1 ∧ H.Ext H' := by
 refine (ACalls.thawC 0 0 (bytes_fz hj hl) (decodeO (H.bare 0) bs hb 0 hD) ?_).mono ?_
 rintro q H' ⟨row, rfl, hi, he⟩
 refine .tuple fun x hx => ?_
 simp only [List.mem_cons, List.not_mem_nil, or_false] at hx
 rcases hx with rfl | rfl | rfl
 exact .agg (img_clean (H := H) he.next hi).1
 exact .val _
 exact .val _
 rintro q H'' ⟨H', ⟨row, rfl, hi, he⟩, rfl, hn, hwf⟩
 exact ⟨row, rfl, by simpa using (img_clean (H := H) (d := 0) hn hi).2, join_ext hn⟩
theorem clean_image {n d k : Nat} (h : k ≠ d) (m : DImage) : Clean n d (.agg (m.row k)) := by
 refine .agg fun q hq => ?_
 simp only [DImage.row, List.mem_cons, List.not_mem_nil, or_false] at hq
 rcases hq with rfl | rfl | rfl | rfl
 exact .val _
 exact clean_sl h (clean_map val_cell)
 refine clean_sl h fun r hr q hq => ?_
 obtain ⟨f, -, rfl⟩ := List.mem_map.1 hr
 simp only [DFlat.row, List.mem_cons, List.not_mem_nil, or_false] at hq
 rcases hq with rfl | rfl | rfl | rfl | rfl | rfl | rfl | rfl
 iterate 6 exact .val _
 exact clean_sl h (clean_map val_op)
 exact clean_sl h (clean_map val_loop)
 refine clean_sl h fun r hr q hq => ?_
 obtain ⟨f, -, rfl⟩ := List.mem_map.1 hr
 simp only [DJob.row, List.mem_cons, List.not_mem_nil, or_false] at hq
 rcases hq with rfl | rfl | rfl | rfl | rfl | rfl | rfl
 iterate 4 exact .val _
 exact clean_sl h (clean_map val_int)
 exact clean_sl h (clean_map val_int)
 exact .val _
theorem decodeF (H : AS) (j : Nat) (bs : List UInt8) (hj : H.box j = some (bs.map brow)) (hl : j < H.next) (hb : bs.length < 2 ^ 62) (hD : DecOk bs) :
  ACalls Tryz.prog 11 [.msl j bs.length 1] H fun q H' => q = .tuple [.agg ((rdAll bs).1.row 1), pi 0, pi 0] ∧ H' = H := by
 refine ACalls.quiet 0 1 (bytes_fz hj hl) ((decodeIs (H.bare 1) bs hb 0).mono ?_) ?_
 rintro q H' ⟨⟨m, a, e, rfl, h1, h2⟩, rfl⟩
 obtain rfl : e = 0 := h1.2 hD
 obtain ⟨rfl, rfl⟩ := h2 rfl
 exact ⟨rfl, rfl⟩
 rintro q rfl
 refine .tuple fun x hx => ?_
 simp only [List.mem_cons, List.not_mem_nil, or_false] at hx
 rcases hx with rfl | rfl | rfl
 exact clean_image (by decide) _
 exact .val _
 exact .val _
theorem pl_image (c : Nat) (m : DImage) : Pl (.agg (m.row c)) := by
 have sl : ∀ {sz : Nat} {rows : List (List PV)}, (∀ r ∈ rows, ∀ q ∈ r, Pl q) → Pl (PV.sl c sz rows) := fun {sz rows} h => by
  cases rows with
  | nil => exact .slice (by simp)
  | cons r rs => exact .slice h
 refine .agg fun q hq => ?_
 simp only [DImage.row, List.mem_cons, List.not_mem_nil, or_false] at hq
 rcases hq with rfl | rfl | rfl | rfl
 exact .val _
 exact sl (pl_map pl_cell)
 refine sl fun r hr q hq => ?_
 obtain ⟨f, -, rfl⟩ := List.mem_map.1 hr
 simp only [DFlat.row, List.mem_cons, List.not_mem_nil, or_false] at hq
 rcases hq with rfl | rfl | rfl | rfl | rfl | rfl | rfl | rfl
 iterate 6 exact .val _
 exact sl (pl_map pl_op)
 exact sl (pl_map pl_loop)
 refine sl fun r hr q hq => ?_
 obtain ⟨f, -, rfl⟩ := List.mem_map.1 hr
 simp only [DJob.row, List.mem_cons, List.not_mem_nil, or_false] at hq
 rcases hq with rfl | rfl | rfl | rfl | rfl | rfl | rfl
 iterate 4 exact .val _
 exact sl (pl_map pl_irow)
 exact sl (pl_map pl_irow)
 exact .val _
theorem sameOwn (H : AS) (lo hi c : Nat) (row : List PV) (m : DImage) (h : ImgAt lo hi H row m) (hm : m.Small) : ACalls Tryz.prog 12 [.agg row, .agg (m.row c)] H fun q H' => q = pb true ∧ H' = H := by
 refine ACalls.still (args' := [.agg (m.row 0), .agg (m.row c)]) 0 0 ⟨imgFz (d := 0) h, .same (pl_image c m), trivial⟩ ((sameImageP (H.bare 0) 0 c m m hm).mono ?_)
 rintro q H' ⟨rfl, rfl⟩
 exact ⟨by simp, rfl⟩
def Sh (lo hi : Nat) (H : AS) (p : PV) (sz n : Nat) : Prop :=
 (n = 0 ∧ (p = .nil ∨ ∃ id, p = .msl id 0 sz)) ∨ ∃ id rows, p = .msl id n sz ∧ (lo ≤ id ∧ id < hi) ∧ H.box id = some rows ∧ rows.length = n ∧ 0 < n ∧ ∀ r ∈ rows, r.length = sz
def ShL (lo hi : Nat) (H : AS) (p : PV) (n : Nat) : Prop :=
 ∃ rows, OutIs lo H p 3 rows ∧ rows.length = n ∧ (∀ r ∈ rows, r.length = 3) ∧ ∀ id k s, p = .msl id k s → id < hi
def Pres (lo hi sz : Nat) (H H' : AS) : Prop := ∀ id rows, lo ≤ id → id < hi → H.box id = some rows → rows ≠ [] → (∀ r ∈ rows, r.length = sz) → ∃ rows', H'.box id = some rows' ∧ rows'.length = rows.length ∧ ∀ r ∈ rows', r.length = sz
def Exact (lo hi sz : Nat) (H H' : AS) : Prop := ∀ id rows, lo ≤ id → id < hi → H.box id = some rows → rows ≠ [] → (∀ r ∈ rows, r.length = sz) → H'.box id = some rows
theorem Exact.pres {lo hi sz : Nat} {H H' : AS} (h : Exact lo hi sz H H') : Pres lo hi sz H H' := fun id rows a b c d e => ⟨rows, h id rows a b c d e, rfl, e⟩
theorem Sh.mono {lo hi sz n : Nat} {H H' : AS} {p : PV} (h : Sh lo hi H p sz n) (hp : Pres lo hi sz H H') : Sh lo hi H' p sz n := by
 rcases h with h | ⟨id, rows, rfl, hl, hb, h1, h2, h3⟩
 exact .inl h
 obtain ⟨rows', g1, g2, g3⟩ := hp id rows hl.1 hl.2 hb (fun e => by rw [e] at h1; simp at h1; omega) h3
 exact .inr ⟨id, rows', rfl, hl, g1, g2.trans h1, h2, g3⟩
theorem pres_set {lo hi sz s0 id : Nat} {H : AS} {rs rs' : List (List PV)} (hb : H.box id = some rs) (h0 : rs ≠ []) (h1 : ∀ r ∈ rs, r.length = s0) (h2 : rs'.length = rs.length) (h3 : ∀ r ∈ rs', r.length = s0) : Pres lo hi sz H (H.setBox id rs') := by
 intro i rows _ _ hi2 hne hr
 by_cases e : i = id
 subst e
 rw [hb] at hi2; cases hi2
 refine ⟨rs', by simp, h2, ?_⟩
 obtain ⟨r, hr0⟩ := List.exists_mem_of_ne_nil _ h0
 have : s0 = sz := by rw [← h1 r hr0, hr r hr0]
 rw [← this]; exact h3
 exact ⟨rows, by simp [e, hi2], rfl, hr⟩
theorem exact_set {lo hi sz s0 id : Nat} {H : AS} {rs rs' : List (List PV)} (hb : H.box id = some rs) (h0 : rs ≠ []) (h1 : ∀ r ∈ rs, r.length = s0) (hs : sz ≠ s0) : Exact lo hi sz H (H.setBox id rs') := by
 intro i rows _ _ hi2 hne hr
 by_cases e : i = id
 subst e
 rw [hb] at hi2; cases hi2
 obtain ⟨r, hr0⟩ := List.exists_mem_of_ne_nil _ h0
 exact absurd (by rw [← h1 r hr0, hr r hr0]) hs.symm
 simp [e, hi2]
theorem exact_grow {lo hi sz n : Nat} {H H' : AS} {p p' : PV} (h : ShL lo hi H p n) (he : Elsewhere p p' H H') (hh : hi ≤ H.next) (hs : sz ≠ 3) : Exact lo hi sz H H' := by
 intro i rows h1 h2 hi2 hne hr
 rw [he.box i (by omega) fun k s e => ?_]
 exact hi2
 obtain ⟨rs, ho, hl, h3, h4⟩ := h
 rcases ho with ⟨-, rfl⟩ | ⟨id, g1, g2, g3, g4⟩
 cases e
 rw [g3] at e; cases e
 rw [hi2] at g4; cases g4
 obtain ⟨r, hr0⟩ := List.exists_mem_of_ne_nil _ hne
 exact hs (by rw [← hr r hr0, h3 r hr0])
theorem ShL.grow {lo hi n k : Nat} {H H' : AS} {p q q' : PV} (h : ShL lo hi H p n) (he : Elsewhere q q' H H') (hne : ∀ id a s b t, p = .msl id a s → q ≠ .msl id b t) : ShL lo hi H' p n := by
 obtain ⟨rs, ho, h2⟩ := h
 refine ⟨rs, ho.stay he.next fun id a s e => he.box id ?_ fun b t => hne id a s b t e, h2⟩
 rcases ho with ⟨-, rfl⟩ | ⟨id', g1, g2, g3, g4⟩
 cases e
 rw [g3] at e; cases e; exact g2
theorem ShL.set {lo hi n s0 id : Nat} {H : AS} {p : PV} {rs rs' : List (List PV)} (h : ShL lo hi H p n) (hb : H.box id = some rs) (h0 : rs ≠ []) (h1 : ∀ r ∈ rs, r.length = s0) (hs : 3 ≠ s0) : ShL lo hi (H.setBox id rs') p n := by
 obtain ⟨rl, ho, h2, h3, h4⟩ := h
 refine ⟨rl, ho.stay (Nat.le_refl _) fun i a s e => ?_, h2, h3, h4⟩
 have : i ≠ id := by
  rintro rfl
  rcases ho with ⟨-, rfl⟩ | ⟨id', g1, g2, g3, g4⟩
  ·cases e
  ·rw [g3] at e; cases e
   rw [hb] at g4; cases g4
   obtain ⟨r, hr0⟩ := List.exists_mem_of_ne_nil _ h0
   exact hs (by rw [← h1 r hr0, h3 r hr0])
 simp [this]
structure CRow (lo hi : Nat) (H : AS) (r : List PV) (more : Prop) : Prop where
 go : ∃ a0 a1 a2 a3 a4 a5 po pl no, r = [a0, a1, a2, a3, a4, a5, po, pl] ∧ Sh lo hi H po 10 no ∧ no ≤ 2 ^ 40 ∧ (more → ∃ nl, ShL lo hi H pl nl ∧ nl ≤ 2 ^ 40)
def Cs (lo hi k : Nat) (H : AS) (p : PV) (n : Nat) : Prop :=
 (n = 0 ∧ (p = .nil ∨ ∃ id, p = .msl id 0 8)) ∨ ∃ id rows, p = .msl id n 8 ∧ (lo ≤ id ∧ id < hi) ∧ H.box id = some rows ∧ rows.length = n ∧ 0 < n ∧ (∀ i r, rows[i]? = some r → CRow lo hi H r (k ≤ i)) ∧
  ∀ i j ri rj id a s b t, k ≤ i → i < j → rows[i]? = some ri → rows[j]? = some rj → ri[7]? = some (.msl id a s) → rj[7]? ≠ some (.msl id b t)
structure JRow (lo hi : Nat) (H : AS) (r : List PV) : Prop where
 go : ∃ a0 a1 a2 a3 pc a5 a6 nc, r = [a0, a1, a2, a3, pc, a5, a6] ∧ Sh lo hi H pc 1 nc ∧ nc ≤ 2 ^ 40
def Js (lo hi : Nat) (H : AS) (p : PV) (n : Nat) : Prop :=
 (n = 0 ∧ (p = .nil ∨ ∃ id, p = .msl id 0 7)) ∨ ∃ id rows, p = .msl id n 7 ∧ (lo ≤ id ∧ id < hi) ∧ H.box id = some rows ∧ rows.length = n ∧ 0 < n ∧ ∀ r ∈ rows, JRow lo hi H r
theorem CRow.len {lo hi : Nat} {H : AS} {r : List PV} {P : Prop} (h : CRow lo hi H r P) : r.length = 8 := by
 obtain ⟨_, _, _, _, _, _, _, _, _, rfl, _⟩ := h; rfl
theorem JRow.len {lo hi : Nat} {H : AS} {r : List PV} (h : JRow lo hi H r) : r.length = 7 := by
 obtain ⟨_, _, _, _, _, _, _, _, rfl, _⟩ := h; rfl
theorem JRow.mono {lo hi : Nat} {H H' : AS} {r : List PV} (h : JRow lo hi H r) (hp : Pres lo hi 1 H H') : JRow lo hi H' r := by
 obtain ⟨a0, a1, a2, a3, pc, a5, a6, nc, e, g, hn⟩ := h
 exact ⟨a0, a1, a2, a3, pc, a5, a6, nc, e, g.mono hp, hn⟩
theorem Js.mono {lo hi n : Nat} {H H' : AS} {p : PV} (h : Js lo hi H p n) (he : Exact lo hi 7 H H') (hp : Pres lo hi 1 H H') : Js lo hi H' p n := by
 rcases h with h | ⟨id, rows, e, hl, hb, h1, h2, h3⟩
 exact .inl h
 exact .inr ⟨id, rows, e, hl, he id rows hl.1 hl.2 hb (fun e => by rw [e] at h1; simp at h1; omega) fun r hr => (h3 r hr).len, h1, h2, fun r hr => (h3 r hr).mono hp⟩
theorem CRow.mono {lo hi : Nat} {H H' : AS} {r : List PV} {P P' : Prop} (h : CRow lo hi H r P) (hp : Pres lo hi 10 H H') (hP : P' → P) (hL : P' → ∀ pl nl, r[7]? = some pl → ShL lo hi H pl nl → ShL lo hi H' pl nl) : CRow lo hi H' r P' := by
 obtain ⟨a0, a1, a2, a3, a4, a5, po, pl, no, rfl, g, hn, g2⟩ := h
 refine ⟨a0, a1, a2, a3, a4, a5, po, pl, no, rfl, g.mono hp, hn, fun e => ?_⟩
 obtain ⟨nl, g3, g4⟩ := g2 (hP e)
 exact ⟨nl, hL e pl nl rfl g3, g4⟩
theorem Cs.write {lo hi k n s0 id : Nat} {H : AS} {p : PV} {rs rs' : List (List PV)} (h : Cs lo hi k H p n) (hb : H.box id = some rs) (h0 : rs ≠ []) (h1 : ∀ r ∈ rs, r.length = s0) (h2 : rs'.length = rs.length) (h3 : ∀ r ∈ rs', r.length = s0) (hs : s0 ≠ 8) (hs3 : s0 ≠ 3) : Cs lo hi k (H.setBox id rs') p n := by
 rcases h with h | ⟨id2, rows, e, hl, hb2, g1, g2, g3, g4⟩
 exact .inl h
 have hne : rows ≠ [] := fun e => by rw [e] at g1; simp at g1; omega
 have h8 : ∀ r ∈ rows, r.length = 8 := fun r hr => by
  obtain ⟨i, hi, rfl⟩ := List.getElem_of_mem hr
  exact (g3 i _ (List.getElem?_eq_getElem hi)).len
 refine .inr ⟨id2, rows, e, hl, exact_set hb h0 h1 hs.symm id2 rows hl.1 hl.2 hb2 hne h8, g1, g2, fun i r hr => (g3 i r hr).mono (pres_set hb h0 h1 h2 h3) (fun e => e) (fun _ pl nl _ hL => hL.set hb h0 h1 hs3.symm), g4⟩
theorem Sh.write {lo hi sz n s0 id : Nat} {H : AS} {p : PV} {rs rs' : List (List PV)} (h : Sh lo hi H p sz n) (hb : H.box id = some rs) (h0 : rs ≠ []) (h1 : ∀ r ∈ rs, r.length = s0) (h2 : rs'.length = rs.length) (h3 : ∀ r ∈ rs', r.length = s0) : Sh lo hi (H.setBox id rs') p sz n := h.mono (pres_set hb h0 h1 h2 h3)
theorem Js.write {lo hi n s0 id : Nat} {H : AS} {p : PV} {rs rs' : List (List PV)} (h : Js lo hi H p n) (hb : H.box id = some rs) (h0 : rs ≠ []) (h1 : ∀ r ∈ rs, r.length = s0) (h2 : rs'.length = rs.length) (h3 : ∀ r ∈ rs', r.length = s0) (hs : s0 ≠ 7) : Js lo hi (H.setBox id rs') p n := h.mono (exact_set hb h0 h1 hs.symm) (pres_set hb h0 h1 h2 h3)
theorem Js.grow {lo hi n nl : Nat} {H H' : AS} {p q q' : PV} (h : Js lo hi H p n) (hL : ShL lo hi H q nl) (he : Elsewhere q q' H H') (hh : hi ≤ H.next) : Js lo hi H' p n := h.mono (exact_grow hL he hh (by decide)) (exact_grow hL he hh (by decide)).pres
theorem Cs.next {lo hi k n id nl : Nat} {H H' : AS} {rows : List (List PV)} {q q' : PV} {r r' : List PV} (h : Cs lo hi k H (.msl id n 8) n) (hb : H.box id = some rows) (hk : k < n) (hr : rows[k]? = some r) (hq : r[7]? = some q) (hL : ShL lo hi H q nl) (he : Elsewhere q q' H H') (hh : hi ≤ H.next) (hr' : r' = r.take 7 ++ [q']) :
  H'.box id = some rows ∧ Cs lo hi (k + 1) (H'.setBox id (rows.set k r')) (.msl id n 8) n := by
 rcases h with ⟨h, _⟩ | ⟨id2, rows2, e, hl, hb2, g1, g2, g3, g4⟩
 omega
 cases e
 rw [hb] at hb2; cases hb2
 have hne : rows ≠ [] := fun e => by rw [e] at g1; simp at g1; omega
 have h8 : ∀ r ∈ rows, r.length = 8 := fun r hr => by
  obtain ⟨i, hi, rfl⟩ := List.getElem_of_mem hr
  exact (g3 i _ (List.getElem?_eq_getElem hi)).len
 have hbx := exact_grow hL he hh (by decide : (8 : Nat) ≠ 3) id rows hl.1 hl.2 hb hne h8
 have hrl : r.length = 8 := (g3 k r hr).len
 have hr'l : r'.length = 8 := by rw [hr']; simp [hrl]
 refine ⟨hbx, .inr ⟨id, rows.set k r', rfl, hl, by simp, by simpa using g1, g2, fun i r2 hr2 => ?_, fun i j ri rj id3 a s b t h1 h2 h3 h4 => ?_⟩⟩
 have p10 : Pres lo hi 10 H' (H'.setBox id (rows.set k r')) := (exact_set (s0 := 8) hbx hne h8 (by decide)).pres
 by_cases e : i = k
 subst e
 rw [List.getElem?_set_self (by omega)] at hr2
 cases hr2
 obtain ⟨a0, a1, a2, a3, a4, a5, po, pl, no, rfl, f1, f2, f3⟩ := (g3 i r hr).go
 subst hr'
 exact ⟨a0, a1, a2, a3, a4, a5, po, q', no, rfl, (f1.mono (exact_grow hL he hh (by decide)).pres).mono p10, f2, fun h => by omega⟩
 rw [List.getElem?_set_ne (by omega)] at hr2
 refine ((g3 i r2 hr2).mono (P' := k + 1 ≤ i) (exact_grow hL he hh (by decide)).pres (fun h => by omega) fun h pl nl2 hp hL2 => ?_).mono p10 (fun h => h) (fun _ pl nl2 _ hL2 => hL2.set hbx hne h8 (by decide))
 refine hL2.grow (k := 0) he fun id4 a s b t e1 e2 => ?_
 subst e1; subst e2
 exact g4 k i r r2 id4 b t a s (Nat.le_refl _) (by omega) hr hr2 hq hp
 rw [List.getElem?_set_ne (by omega)] at h3
 rw [List.getElem?_set_ne (by omega)] at h4
 exact g4 i j ri rj id3 a s b t (by omega) h2 h3 h4
theorem sh_out {lo hi sz : Nat} {H : AS} {p : PV} {rows : List (List PV)} (h : OutIs lo H p sz rows) (h1 : ∀ r ∈ rows, r.length = sz) (h2 : ∀ id n s, p = .msl id n s → id < hi) : Sh lo hi H p sz rows.length := by
 rcases h with ⟨rfl, rfl⟩ | ⟨id, g1, g2, rfl, g4⟩
 exact .inl ⟨rfl, .inl rfl⟩
 by_cases e : rows.length = 0
 rw [e]; exact .inl ⟨rfl, .inr ⟨id, rfl⟩⟩
 exact .inr ⟨id, rows, rfl, ⟨g1, h2 _ _ _ rfl⟩, g4, rfl, by omega, h1⟩
theorem len_map {α : Type} {R : α → List PV} {n : Nat} {xs : List α} (h : ∀ x, (R x).length = n) : ∀ r ∈ xs.map R, r.length = n := fun r hr => by
 obtain ⟨x, -, rfl⟩ := List.mem_map.1 hr; exact h x
structure Small2 (m : DImage) : Prop where
 codes : ∀ f ∈ m.codes, f.ops.length ≤ 2 ^ 40 ∧ f.loops.length ≤ 2 ^ 40
 jobs : ∀ j ∈ m.jobs, j.codes.length ≤ 2 ^ 40
theorem img_start {lo hi : Nat} {H : AS} {row : List PV} {m : DImage} (h : ImgAt lo hi H row m) (hm : Small2 m) : ∃ p1 p2 p3, row = [ps m.name, p1, p2, p3] ∧ Sh lo hi H p1 11 m.cells.length ∧ Cs lo hi 0 H p2 m.codes.length ∧ Js lo hi H p3 m.jobs.length := by
 obtain ⟨p1, p2, p3, rfl, h1, h2, h3⟩ := h
 refine ⟨p1, p2, p3, rfl, ?_, ?_, ?_⟩
 obtain ⟨rows, g1, g2, g3, g4, g5, g6⟩ := h1
 rw [← g2]
 refine sh_out g1 (fun r hr => ?_) g4
 obtain ⟨i, hi, rfl⟩ := List.getElem_of_mem hr
 have := (g5 i _ _ (List.getElem?_eq_getElem hi) (List.getElem?_eq_getElem (by omega))).1
 rw [this]; rfl
 obtain ⟨rows, g1, g2, g3, g4, g5, g6⟩ := h2
 have hrow : ∀ i r, rows[i]? = some r → CRow lo hi H r (0 ≤ i) := fun i r hr => by
  have hi := (List.getElem?_eq_some_iff.1 hr).1
  obtain ⟨⟨po, pl, rfl, f1, f2⟩, f3⟩ := g5 i r m.codes[i] hr (List.getElem?_eq_getElem (by omega))
  have hb := hm.codes _ (List.getElem_mem (l := m.codes) (n := i) (by omega))
  refine ⟨_, _, _, _, _, _, po, pl, _, rfl, sh_out f1 (len_map fun _ => rfl) fun id n s e => (f3 po (by simp [frow]) id n s e).1, by simpa using hb.1, fun _ => ⟨_, ⟨_, f2, rfl, len_map fun _ => rfl, fun id n s e => (f3 pl (by simp [frow]) id n s e).1⟩, by simpa using hb.2⟩⟩
 rcases g1 with ⟨e, rfl⟩ | ⟨id, a1, a2, rfl, a4⟩
 left; rw [e] at g2; exact ⟨g2.symm, .inl rfl⟩
 by_cases e : rows.length = 0
 left; rw [e]; exact ⟨by omega, .inr ⟨id, rfl⟩⟩
 right
 refine ⟨id, rows, by rw [g2], ⟨a1, g4 _ _ _ rfl⟩, a4, g2, by omega, hrow, fun i j ri rj id3 a s b t h1 h2 h3 h4 h5 h6 => ?_⟩
 exact g6 i j ri rj h2 h3 h4 _ (List.mem_of_getElem? h5) _ (List.mem_of_getElem? h6) id3 a s b t rfl rfl
 obtain ⟨rows, g1, g2, g3, g4, g5, g6⟩ := h3
 have hrow : ∀ r ∈ rows, JRow lo hi H r := fun r hr => by
  obtain ⟨i, hi, rfl⟩ := List.getElem_of_mem hr
  obtain ⟨⟨pc, pb, e, f1, f2⟩, f3⟩ := g5 i _ m.jobs[i] (List.getElem?_eq_getElem hi) (List.getElem?_eq_getElem (by omega))
  have hb := hm.jobs _ (List.getElem_mem (l := m.jobs) (n := i) (by omega))
  exact ⟨_, _, _, _, pc, pb, _, _, e, sh_out f1 (len_map fun _ => rfl) fun id n s e2 => (f3 pc (by rw [e]; simp [jrow]) id n s e2).1, by simpa using hb⟩
 rcases g1 with ⟨e, rfl⟩ | ⟨id, a1, a2, rfl, a4⟩
 left; rw [e] at g2; exact ⟨g2.symm, .inl rfl⟩
 by_cases e : rows.length = 0
 left; rw [e]; exact ⟨by omega, .inr ⟨id, rfl⟩⟩
 exact .inr ⟨id, rows, by rw [g2], ⟨a1, g4 _ _ _ rfl⟩, a4, g2, by omega, hrow⟩
structure X (Hs : AS) (lo hi bm bx by_ c : Nat) (m : DImage) (p1 p2 p3 : PV) (k : Nat) (H : AS) : Prop where
 ext : Hs.Ext H
 hs : Hs.next ≤ bm ∧ bm < lo ∧ lo ≤ hi
 hb : hi ≤ bx ∧ bx < by_ ∧ by_ < H.next
 bm : H.box bm = some [m.row c]
 bx : H.box bx = some [[ps m.name, p1, p2, p3]]
 by' : H.box by_ = some [m.row 1]
 s1 : Sh lo hi H p1 11 m.cells.length
 s2 : Cs lo hi k H p2 m.codes.length
 s3 : Js lo hi H p3 m.jobs.length
section
variable {Hs H H' : AS} {lo hi bm bx by_ c k : Nat} {m : DImage} {p1 p2 p3 : PV}
theorem X.write {id s0 : Nat} {rs rs' : List (List PV)} (h : X Hs lo hi bm bx by_ c m p1 p2 p3 k H) (hl : lo ≤ id ∧ id < hi) (hb : H.box id = some rs) (h0 : rs ≠ []) (h1 : ∀ r ∈ rs, r.length = s0) (h2 : rs'.length = rs.length) (h3 : ∀ r ∈ rs', r.length = s0) (hs : s0 ≠ 8) (hs3 : s0 ≠ 3) (hs7 : s0 ≠ 7) : X Hs lo hi bm bx by_ c m p1 p2 p3 k (H.setBox id rs') := by
 have a := h.hs
 have b := h.hb
 exact ⟨.setBox (by omega) h.ext, a, by simpa using b, by simp [show ¬ bm = id by omega, h.bm], by simp [show ¬ bx = id by omega, h.bx], by simp [show ¬ by_ = id by omega, h.by'], h.s1.write hb h0 h1 h2 h3, h.s2.write hb h0 h1 h2 h3 hs hs3, h.s3.write hb h0 h1 h2 h3 hs7⟩
theorem X.next {id nl : Nat} {rows : List (List PV)} {q q' : PV} {r r' : List PV} (h : X Hs lo hi bm bx by_ c m p1 p2 p3 k H) (e2 : p2 = .msl id m.codes.length 8) (hl : lo ≤ id ∧ id < hi) (hb : H.box id = some rows) (hk : k < m.codes.length) (hr : rows[k]? = some r) (hq : r[7]? = some q) (hL : ShL lo hi H q nl) (he : Elsewhere q q' H H') (hr' : r' = r.take 7 ++ [q']) :
  H'.box id = some rows ∧ X Hs lo hi bm bx by_ c m p1 p2 p3 (k + 1) (H'.setBox id (rows.set k r')) := by
 subst e2
 have a := h.hs
 have b := h.hb
 have hh : hi ≤ H.next := by omega
 have hq2 : ∀ i a s, q = .msl i a s → lo ≤ i ∧ i < hi := fun i a s e => by
  obtain ⟨rs, ho, -, -, g⟩ := hL
  refine ⟨?_, g i a s e⟩
  rcases ho with ⟨-, rfl⟩ | ⟨i2, g1, -, g3, -⟩
  ·cases e
  ·rw [g3] at e; cases e; exact g1
 have st : ∀ i, i < H.next → (i < lo ∨ hi ≤ i) → H'.box i = H.box i := fun i h1 h2 => he.box i h1 fun a s e => by have := hq2 _ _ _ e; omega
 obtain ⟨g1, g2⟩ := Cs.next h.s2 hb hk hr hq hL he hh hr'
 refine ⟨g1, ?_⟩
 have h8 : ∀ r ∈ rows, r.length = 8 := fun r hr => by
  rcases h.s2 with ⟨h0, _⟩ | ⟨id2, rows2, e, hl2, hb2, f1, f2, f3, f4⟩
  ·omega
  ·cases e
   rw [hb] at hb2; cases hb2
   obtain ⟨i, hi, rfl⟩ := List.getElem_of_mem hr
   exact (f3 i _ (List.getElem?_eq_getElem hi)).len
 have hne : rows ≠ [] := fun e => by rw [e] at hr; simp at hr
 have hrl : r.length = 8 := h8 r (List.mem_of_getElem? hr)
 have hset : ∀ y ∈ rows.set k r', y.length = 8 := fun y hy => by
  rcases List.mem_or_eq_of_mem_set hy with hy | rfl
  ·exact h8 y hy
  ·rw [hr']; simp [hrl]
 have he1 : Hs.Ext H' := ⟨Nat.le_trans h.ext.next he.next, fun i hi => (st i (Nat.lt_of_lt_of_le hi h.ext.next) (.inl (by omega))).trans (h.ext.box i hi), fun i hi => (he.mp i).trans (h.ext.mp i hi), he.color.trans h.ext.color⟩
 have hn := he.next
 refine ⟨.setBox (by omega) he1, a, by simp; omega, ?_, ?_, ?_, ?_, g2, ?_⟩
 simp [show ¬ bm = id by omega]; rw [st _ (by omega) (.inl (by omega))]; exact h.bm
 simp [show ¬ bx = id by omega]; rw [st _ (by omega) (.inr (by omega))]; exact h.bx
 simp [show ¬ by_ = id by omega]; rw [st _ (by omega) (.inr (by omega))]; exact h.by'
 exact (h.s1.mono (exact_grow hL he hh (by decide)).pres).write g1 hne h8 (by simp) hset
 exact (h.s3.grow hL he hh).mono (exact_set g1 hne h8 (by decide)) (exact_set g1 hne h8 (by decide)).pres
end
end Go.Abs
