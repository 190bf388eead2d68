/- Texts of ours, merged: the abstract layer, the walks over the loaded functions, the plain laws. -/
import Derived.Test.YthabhakehajjnaaGreatDoorA5
import Derived.Test.YthabhakehajjnaaGreatDoorA3
namespace Go.Abs
open Go.Proofs
set_option autoImplicit false
set_option linter.all false
set_option maxRecDepth 100000
set_option maxHeartbeats 4000000
attribute [local simp ↓] wanted_at hbind_some
attribute [local simp] Gs_true Gs_false gcond_Gr Gr_true Gr_false abox frame0 int_beq int_bne aload astore partOf Keeps Same splice aUn aFieldAddr aField aBin aBinV aConvert aExtract aLen aBuild aBuild.go aalloc AS.Ext.refl AS.Ext.bump AS.Ext.setBox
namespace LEx
mutual
/-- Lists that a count can count. -/
def sm : LEx → Prop
  | mk _ _ _ _ _ _ _ k ns => k.length < 1099511627776 ∧ ns.length < 1099511627776 ∧ smL k
def smL : List LEx → Prop
  | [] => True
  | e :: es => sm e ∧ smL es
end
theorem smL_append (a b : List LEx) : smL (a ++ b) ↔ smL a ∧ smL b := by
  induction a with
  | nil => simp [smL]
  | cons x xs ih => simp [smL, ih, and_assoc]
theorem smL_mem : ∀ {l : List LEx} {e : LEx}, smL l → e ∈ l → e.sm
  | x :: l, e, h, he => by
    rcases List.mem_cons.1 he with rfl | he
    · exact h.1
    · exact smL_mem h.2 he
end LEx
namespace LSt
mutual
def sm : LSt → Prop
  | mk _ _ _ x ns b => x.length < 1099511627776 ∧ LEx.smL x ∧ ns.length < 1099511627776 ∧ b.length < 1099511627776 ∧ smL b
def smL : List LSt → Prop
  | [] => True
  | e :: es => sm e ∧ smL es
end
theorem smL_append (a b : List LSt) : smL (a ++ b) ↔ smL a ∧ smL b := by
  induction a with
  | nil => simp [smL]
  | cons x xs ih => simp [smL, ih, and_assoc]
theorem smL_mem : ∀ {l : List LSt} {e : LSt}, smL l → e ∈ l → e.sm
  | x :: l, e, h, he => by
    rcases List.mem_cons.1 he with rfl | he
    · exact h.1
    · exact smL_mem h.2 he
end LSt
theorem sm_nam (s : ByteArray) (a : Int) : (xNam s a).sm := by simp [xNam, LEx.sm, LEx.smL]
theorem sm_plc (s : ByteArray) (a : Int) : (xPlc s a).sm := by unfold xPlc; split <;> simp [xNam, LEx.sm, LEx.smL]
theorem sm_tru (b : Bool) (a : Int) : (xTru b a).sm := by simp [xTru, LEx.sm, LEx.smL]
theorem sm_not {x : LEx} (h : x.sm) : (xNot x).sm := by simp [xNot, LEx.sm, LEx.smL, h]
theorem sm_two {o a : Int} {x y : LEx} (h : x.sm) (h' : y.sm) : (xTwo o a x y).sm := by simp [xTwo, LEx.sm, LEx.smL, h, h']
namespace LEl
mutual
theorem con_sm (a : Int) (n : Nat) : ∀ e : LEl, (con a n e).1.sm
  | mk o p nm br => by
    have h := besB_sm a n br
    rw [con]
    split
    · exact sm_not (sm_plc _ _)
    · split
      · exact sm_nam _ _
      · split
        · exact h
        · exact sm_plc _ _
theorem besB_sm (a : Int) (n : Nat) : ∀ b : List (List LEl), (besB a n b).1.sm
  | [] => by rw [besB]; exact sm_tru _ _
  | b :: bs => by
    have h1 := conL_sm a n b
    rw [besB]; exact besF_sm a _ _ bs h1
theorem besF_sm (a : Int) (x : LEx) (n : Nat) : ∀ b : List (List LEl), x.sm → (besF a x n b).1.sm
  | [], hx => by rw [besF]; exact hx
  | b :: bs, hx => by
    have h1 := conL_sm a n b
    rw [besF]; exact besF_sm a _ _ bs (sm_two hx h1)
theorem conL_sm (a : Int) (n : Nat) : ∀ l : List LEl, (conL a n l).1.sm
  | [] => by rw [conL]; exact sm_tru _ _
  | e :: es => by
    have h1 := con_sm a n e
    rw [conL]; exact conF_sm a _ _ es h1
theorem conF_sm (a : Int) (x : LEx) (n : Nat) : ∀ l : List LEl, x.sm → (conF a x n l).1.sm
  | [], hx => by rw [conF]; exact hx
  | e :: es, hx => by
    have h1 := con_sm a n e
    rw [conF]; exact conF_sm a _ _ es (sm_two hx h1)
end
end LEl
theorem sm_set {a : Int} {x y : LEx} (h : x.sm) (h' : y.sm) : (sSet a x y).sm := by simp [sSet, LSt.sm, LSt.smL, LEx.smL, h, h']
theorem sm_edges (a : Int) : ∀ (n : Nat) (E : List LEl), LSt.smL (edgesS a n E)
  | _, [] => by simp [edgesS, LSt.smL]
  | n, e :: E => by
    have h := sm_edges a (n + 1) E
    rw [edgesS, LSt.smL_append]
    refine ⟨⟨sm_set (sm_nam _ _) ?_, sm_set (sm_nam _ _) (sm_plc _ _), trivial⟩, h⟩
    split
    · exact sm_two (sm_not (sm_plc _ _)) (sm_nam _ _)
    · exact sm_two (sm_plc _ _) (sm_not (sm_nam _ _))
theorem sm_coil (a : Int) (r : ByteArray) (c : LEl) : (coilS a r c).sm := by
  have h := sm_nam r a
  unfold coilS
  split
  · exact sm_set (sm_plc _ _) (by simp [LEx.sm, LEx.smL, h])
  · split
    · have h2 : (sSet a (xPlc c.name c.pos) (xTru (decide (c.op = 8)) a)).sm := sm_set (sm_plc _ _) (sm_tru _ _)
      simp only [sIf, LSt.sm, LSt.smL, LEx.smL, h, h2, List.length_cons, List.length_nil, and_true, true_and]
      omega
    · exact sm_set (sm_plc _ _) h
theorem sm_lad : ∀ (k n : Nat) (l : List LRg), LSt.smL (ladS k n l)
  | _, _, [] => by simp [ladS, LSt.smL]
  | k, n, r :: l => by
    have h := sm_lad (k + 1) (n + rungE r) l
    rw [ladS, LSt.smL_append]
    refine ⟨?_, h⟩
    rw [rungS, LSt.smL_append]
    refine ⟨sm_edges _ _ _, sm_set (sm_nam _ _) (LEl.conL_sm _ _ _), ?_⟩
    have hc : ∀ cs : List LEl, LSt.smL (cs.map (coilS r.pos (hR (k + 1)))) := by
      intro cs
      induction cs with
      | nil => simp [LSt.smL]
      | cons x xs ih => exact ⟨sm_coil _ _ _, ih⟩
    exact hc _
instance : Inhabited LEx := ⟨.mk 0 0 eE eE 0 0 eE [] []⟩
instance : Inhabited LSt := ⟨.mk 0 0 eE [] [] []⟩
instance : Inhabited ByteArray := ⟨⟨#[]⟩⟩
theorem idx42 (c : Nat) (l : List LEx) (i : Int) (h0 : 0 ≤ i) (h1 : i < (l.length : Int)) : aIndexAddr Tryz.prog 42 (PV.sl c 14 (l.map (LEx.row c))) (pi i) = some (.rptr c (LEx.row c (nth l i))) := idx_list under42 Tryz.sz121 _ l i h0 h1
theorem idx26s (c : Nat) (l : List LSt) (i : Int) (h0 : 0 ≤ i) (h1 : i < (l.length : Int)) : aIndexAddr Tryz.prog 26 (PV.sl c 14 (l.map (LSt.row c))) (pi i) = some (.rptr c (LSt.row c (nth l i))) := idx_list under26 Tryz.sz51 _ l i h0 h1
theorem eq119' (k b : Int) (t : ByteArray) (d : Nat) : aEqIn Tryz.prog (d + 2) 119 (.agg [k8 k, k64 b, ps t]) (.agg [k8 k, k64 b, ps t]) = some true := by
  simp [aEqIn, Program.fieldsOf, aEqIn.go, partOf, aEqCell, beq_bytes]
theorem eq119 (k b : Int) (t : ByteArray) : aEqIn Tryz.prog Op.maxDepth 119 (.agg [k8 k, k64 b, ps t]) (.agg [k8 k, k64 b, ps t]) = some true := eq119' k b t 9998
theorem idx43s (c : Nat) (l : List ByteArray) (i : Int) (h0 : 0 ≤ i) (h1 : i < (l.length : Int)) : aIndexAddr Tryz.prog 43 (PV.sl c 1 (l.map nRow)) (pi i) = some (.rptr c (nRow (nth l i))) := idx_list under43 Tryz.sz9 _ l i h0 h1
theorem xEqS (H : AS) (c c' : Nat) (l : List ByteArray) (hl : l.length < 1099511627776) : ACalls Tryz.prog 66 [PV.sl c 1 (l.map nRow), PV.sl c' 1 (l.map nRow)] H fun q H' => q = pb true ∧ H' = H := by
  refine ACalls_intro Tryz.func66 rfl (by kernel_rfl) (by simp) fun hwf hbel => ?_
  repeat' first
    | refine T_seq ?_
    | refine T_rgn ?_
    | refine T_cd ?_
    | refine T_sk ?_
    | refine T_rt ?_
    | refine T_block ?_
    | refine T_ex ?_
    | refine Kt_then ?_
    | refine Kt_block ?_
    | refine Kr_then ?_
    | refine Kr_block ?_
    | refine Ke_here ?_
    | refine Ke_then ?_
    | refine Hid.mk ?_
    | refine Gs.mk (fun g => ?_) (fun g => ?_) <;> (try simp only [nm] at g) <;> try (exfalso; first | contradiction | omega)
    | refine Gr.mk (fun g => ?_) (fun g => ?_) <;> (try simp only [nm] at g) <;> try (exfalso; first | contradiction | omega)
    | (refine Run.of ?_; simp (maxSteps := 1000000) (disch := first | omega | assumption | (simp; done) | fail) [*, lenNilS, idx42, idx26s, idx43s, nRow, wrap_nn, wrap_i64, LEx.len, LEx.take14, LSt.len, LSt.take14, beq_bytes, eq119])
  refine T_lp (fun k F H' => ∃ (i : Nat), k = l.length - i ∧ F 0 = PV.sl c 1 (l.map nRow) ∧ F 1 = PV.sl c' 1 (l.map nRow) ∧ F 11 = PV.sl c 1 (l.map nRow) ∧ F 12 = pi l.length ∧ F 13 = pi i ∧ i ≤ l.length ∧ H.Ext H') _ ⟨0, rfl, by simp, by simp, by simp, by simp, by simp, Nat.zero_le _, .refl _⟩ ?_
  rintro k F H1 ⟨i, rfl, g0, g1, g11, g12, g13, hi, hext⟩
  have hn1 := hext.next
  repeat' first
    | refine T_seq ?_
    | refine T_rgn ?_
    | refine T_cd ?_
    | refine T_sk ?_
    | refine T_rt ?_
    | refine T_block ?_
    | refine T_ex ?_
    | refine Kt_then ?_
    | refine Kt_block ?_
    | refine Kr_then ?_
    | refine Kr_block ?_
    | refine Kr_loop ?_
    | refine Ke_here ?_
    | refine Ke_then ?_
    | refine Ke_loop ?_
    | refine Ke_block ?_
    | refine Hid.mk ?_
    | refine T_dr (id := 6) (fun _ => True) [] (.free 0 (.free 1 (.free 2 (.free 3 (.free 4 (.free 5 (.free 6 (.free 7 (.free 8 .done))))))))) mix ?_
    | refine And.intro (fun _ h1 h2 => absurd h2 h1) ?_
    | refine Gs.mk (fun g => ?_) (fun g => ?_) <;> (try simp only [nm] at g) <;> try (exfalso; first | contradiction | omega)
    | refine Gr.mk (fun g => ?_) (fun g => ?_) <;> (try simp only [nm] at g) <;> try (exfalso; first | contradiction | omega)
    | (refine Run.of ?_; simp (maxSteps := 1000000) (disch := first | omega | assumption | (simp; done) | fail) [*, lenNilS, idx42, idx26s, idx43s, nRow, wrap_nn, wrap_i64, LEx.len, LEx.take14, LSt.len, LSt.take14, beq_bytes, eq119])
  all_goals first
    | (refine Kx.mk ?_; refine owes_one (.inr rfl) hwf rfl (by first | rfl | (simp [*]; done)) (by first | exact AS.Ext.refl _ | assumption | ((repeat (first | exact AS.Ext.refl _ | assumption | refine AS.Ext.bump ?_ | refine AS.Ext.kill (by first | omega | (simp; omega) | simp) ?_ | refine AS.Ext.setBox (by first | omega | (simp; omega)) ?_)); done)) ?_ ?_ <;> (first | (constructor <;> simp [Frozen]) | exact .val _))
    | (refine Kt_loop ⟨_, ?_, i + 1, rfl, ?_⟩ <;> (repeat' apply And.intro) <;> first | omega | (simp [*]; done) | ((repeat (first | exact AS.Ext.refl _ | assumption | refine AS.Ext.bump ?_ | refine AS.Ext.kill (by first | omega | (simp; omega) | simp) ?_ | refine AS.Ext.setBox (by first | omega | (simp; omega)) ?_)); done) | fail)
    | fail
theorem xEqR (H : AS) : ACalls Tryz.prog 67 [PV.nilS, PV.nilS] H fun q H' => q = pb true ∧ H' = H := by
  refine ACalls_intro Tryz.func67 rfl (by kernel_rfl) (by simp) fun hwf hbel => ?_
  repeat' first
    | refine T_seq ?_
    | refine T_rgn ?_
    | refine T_cd ?_
    | refine T_sk ?_
    | refine T_rt ?_
    | refine T_block ?_
    | refine T_ex ?_
    | refine Kt_then ?_
    | refine Kt_block ?_
    | refine Kr_then ?_
    | refine Kr_block ?_
    | refine Ke_here ?_
    | refine Ke_then ?_
    | refine Hid.mk ?_
    | refine Gs.mk (fun g => ?_) (fun g => ?_) <;> (try simp only [nm] at g) <;> try (exfalso; first | contradiction | omega)
    | refine Gr.mk (fun g => ?_) (fun g => ?_) <;> (try simp only [nm] at g) <;> try (exfalso; first | contradiction | omega)
    | (refine Run.of ?_; simp (maxSteps := 1000000) (disch := first | omega | assumption | (simp; done) | fail) [*, lenNilS, idx42, idx26s, idx43s, nRow, wrap_nn, wrap_i64, LEx.len, LEx.take14, LSt.len, LSt.take14, beq_bytes, eq119])
  refine T_lp (fun k F H' => k = 0 ∧ F 12 = pi 0 ∧ F 13 = pi 0 ∧ H.Ext H') 0 ⟨rfl, by simp, by simp, .refl _⟩ ?_
  rintro k F H1 ⟨rfl, g12, g13, hext⟩
  repeat' first
    | refine T_seq ?_
    | refine T_rgn ?_
    | refine T_cd ?_
    | refine T_sk ?_
    | refine T_rt ?_
    | refine T_block ?_
    | refine T_ex ?_
    | refine Kt_then ?_
    | refine Kt_block ?_
    | refine Kr_then ?_
    | refine Kr_block ?_
    | refine Kr_loop ?_
    | refine Ke_here ?_
    | refine Ke_then ?_
    | refine Ke_loop ?_
    | refine Ke_block ?_
    | refine Hid.mk ?_
    | refine Gs.mk (fun g => ?_) (fun g => ?_) <;> (try simp only [nm] at g) <;> try (exfalso; first | contradiction | omega)
    | refine Gr.mk (fun g => ?_) (fun g => ?_) <;> (try simp only [nm] at g) <;> try (exfalso; first | contradiction | omega)
    | (refine Run.of ?_; simp (maxSteps := 1000000) (disch := first | omega | assumption | (simp; done) | fail) [*, lenNilS, idx42, idx26s, idx43s, nRow, wrap_nn, wrap_i64, LEx.len, LEx.take14, LSt.len, LSt.take14, beq_bytes, eq119])
  all_goals (refine Kx.mk ?_; refine owes_one (.inr rfl) hwf rfl (by first | rfl | (simp [*]; done)) (by first | exact AS.Ext.refl _ | assumption | ((repeat (first | exact AS.Ext.refl _ | assumption | refine AS.Ext.bump ?_ | refine AS.Ext.kill (by first | omega | (simp; omega) | simp) ?_ | refine AS.Ext.setBox (by first | omega | (simp; omega)) ?_)); done)) ?_ ?_ <;> (first | (constructor <;> simp [Frozen]) | exact .val _))
def SamE (e : LEx) : Prop := e.sm → ∀ (H : AS) (c c' : Nat), ACalls Tryz.prog 98 [.agg (e.row c), .agg (e.row c')] H fun q H' => q = pb true ∧ H' = H
def SamEs (l : List LEx) : Prop := LEx.smL l → l.length < 1099511627776 → ∀ (H : AS) (c c' : Nat), ACalls Tryz.prog 65 [PV.sl c 14 (l.map (LEx.row c)), PV.sl c' 14 (l.map (LEx.row c'))] H fun q H' => q = pb true ∧ H' = H
theorem sames_of (l : List LEx) (ih : ∀ e ∈ l, SamE e) : SamEs l := by
  intro hsm hl H c c'
  refine ACalls_intro Tryz.func65 rfl (by kernel_rfl) (by simp) fun hwf hbel => ?_
  repeat' first
    | refine T_seq ?_
    | refine T_rgn ?_
    | refine T_cd ?_
    | refine T_sk ?_
    | refine T_rt ?_
    | refine T_block ?_
    | refine T_ex ?_
    | refine Kt_then ?_
    | refine Kt_block ?_
    | refine Kr_then ?_
    | refine Kr_block ?_
    | refine Ke_here ?_
    | refine Ke_then ?_
    | refine Hid.mk ?_
    | refine Gs.mk (fun g => ?_) (fun g => ?_) <;> (try simp only [nm] at g) <;> try (exfalso; first | contradiction | omega)
    | refine Gr.mk (fun g => ?_) (fun g => ?_) <;> (try simp only [nm] at g) <;> try (exfalso; first | contradiction | omega)
    | (refine Run.of ?_; simp (maxSteps := 1000000) (disch := first | omega | assumption | (simp; done) | fail) [*, lenNilS, idx42, idx26s, idx43s, nRow, wrap_nn, wrap_i64, LEx.len, LEx.take14, LSt.len, LSt.take14, beq_bytes, eq119])
  refine T_lp (fun k F H' => ∃ (i : Nat), k = l.length - i ∧ F 0 = PV.sl c 14 (l.map (LEx.row c)) ∧ F 1 = PV.sl c' 14 (l.map (LEx.row c')) ∧ F 11 = PV.sl c 14 (l.map (LEx.row c)) ∧ F 12 = pi l.length ∧ F 13 = pi i ∧ i ≤ l.length ∧ H.Ext H') _ ⟨0, rfl, by simp, by simp, by simp, by simp, by simp, Nat.zero_le _, .refl _⟩ ?_
  rintro k F H1 ⟨i, rfl, g0, g1, g11, g12, g13, hi, hext⟩
  have hn1 := hext.next
  repeat' first
    | refine T_seq ?_
    | refine T_rgn ?_
    | refine T_cd ?_
    | refine T_sk ?_
    | refine T_rt ?_
    | refine T_block ?_
    | refine T_ex ?_
    | refine Kt_then ?_
    | refine Kt_block ?_
    | refine Kr_then ?_
    | refine Kr_block ?_
    | refine Kr_loop ?_
    | refine Ke_here ?_
    | refine Ke_then ?_
    | refine Ke_loop ?_
    | refine Ke_block ?_
    | refine Hid.mk ?_
    | refine T_dr (id := 6) (fun _ => True) [] (.free 0 (.free 1 (.free 2 (.free 3 (.free 4 (.free 5 (.free 6 (.free 7 (.sole 8 (.free 9 .done)))))))))) mix ?_
    | refine And.intro (fun _ h1 h2 => absurd h2 h1) ?_
    | (refine callR (ih (nth l (i : Int)) (mem_nth (by assumption)) (LEx.smL_mem hsm (mem_nth (by assumption))) _ _ _) ?_; rintro _ Hz ⟨rfl, hz⟩; subst Hz)
    | refine Gs.mk (fun g => ?_) (fun g => ?_) <;> (try simp only [nm] at g) <;> try (exfalso; first | contradiction | omega)
    | refine Gr.mk (fun g => ?_) (fun g => ?_) <;> (try simp only [nm] at g) <;> try (exfalso; first | contradiction | omega)
    | (refine Run.of ?_; simp (maxSteps := 1000000) (disch := first | omega | assumption | (simp; done) | fail) [*, lenNilS, idx42, idx26s, idx43s, nRow, wrap_nn, wrap_i64, LEx.len, LEx.take14, LSt.len, LSt.take14, beq_bytes, eq119])
  all_goals first
    | (refine Kx.mk ?_; refine owes_one (.inr rfl) hwf rfl (by first | rfl | (simp [*]; done)) (by first | exact AS.Ext.refl _ | assumption | ((repeat (first | exact AS.Ext.refl _ | assumption | refine AS.Ext.bump ?_ | refine AS.Ext.kill (by first | omega | (simp; omega) | simp) ?_ | refine AS.Ext.setBox (by first | omega | (simp; omega)) ?_)); done)) ?_ ?_ <;> (first | (constructor <;> simp [Frozen]) | exact .val _))
    | (refine Kt_loop ⟨_, ?_, i + 1, rfl, ?_⟩ <;> (repeat' apply And.intro) <;> first | omega | (simp [*]; done) | ((repeat (first | exact AS.Ext.refl _ | assumption | refine AS.Ext.bump ?_ | refine AS.Ext.kill (by first | omega | (simp; omega) | simp) ?_ | refine AS.Ext.setBox (by first | omega | (simp; omega)) ?_)); done) | fail)
    | fail
theorem same_of (o a : Int) (n f : ByteArray) (vk vb : Int) (vt : ByteArray) (ks : List LEx) (ns : List ByteArray) (ih : SamEs ks) : SamE (.mk o a n f vk vb vt ks ns) := by
  rintro ⟨h1, h2, h3⟩ H c c'
  rw [LEx.row_mk, LEx.row_mk]
  refine ACalls_intro Tryz.func98 rfl (by kernel_rfl) (by simp) fun hwf hbel => ?_
  have e1 : ¬ H.next = H.next + 1 := by omega
  have e2 : ¬ H.next + 1 = H.next := by omega
  repeat' first
    | refine T_seq ?_
    | refine T_rgn ?_
    | refine T_cd ?_
    | refine T_sk ?_
    | refine T_rt ?_
    | refine T_block ?_
    | refine T_ex ?_
    | refine Kt_then ?_
    | refine Kt_block ?_
    | refine Kr_then ?_
    | refine Kr_block ?_
    | refine Ke_here ?_
    | refine Ke_then ?_
    | refine Hid.mk ?_
    | refine And.intro (fun _ h1 h2 => absurd h2 h1) ?_
    | (refine callR (xEqS _ _ _ ns h2) ?_; rintro _ Hz ⟨rfl, hz⟩; subst Hz)
    | (refine callR (ih h3 h1 _ _ _) ?_; rintro _ Hz ⟨rfl, hz⟩; subst Hz)
    | refine Gs.mk (fun g => ?_) (fun g => ?_) <;> (try simp only [nm] at g) <;> try (exfalso; first | contradiction | omega)
    | refine Gr.mk (fun g => ?_) (fun g => ?_) <;> (try simp only [nm] at g) <;> try (exfalso; first | contradiction | omega)
    | (refine Run.of ?_; simp (maxSteps := 1000000) (disch := first | omega | assumption | (simp; done) | fail) [*, lenNilS, idx42, idx26s, idx43s, nRow, wrap_nn, wrap_i64, LEx.len, LEx.take14, LSt.len, LSt.take14, beq_bytes, eq119])
  all_goals (refine Kx.mk ?_; refine owes_one (.inr rfl) hwf rfl (by first | rfl | (simp [*]; done)) (by first | exact AS.Ext.refl _ | assumption | ((repeat (first | exact AS.Ext.refl _ | assumption | refine AS.Ext.bump ?_ | refine AS.Ext.kill (by first | omega | (simp; omega) | simp) ?_ | refine AS.Ext.setBox (by first | omega | (simp; omega)) ?_)); done)) ?_ ?_ <;> (first | (constructor <;> simp [Frozen]) | exact .val _))
mutual
theorem same_all : ∀ e : LEx, SamE e
  | .mk o a n f vk vb vt ks ns => same_of o a n f vk vb vt ks ns (sames_of ks (same_items ks))
theorem same_items : ∀ l : List LEx, ∀ e ∈ l, SamE e
  | [] => by simp
  | x :: l => by
    have h1 := same_all x
    have h2 := same_items l
    intro e he
    rcases List.mem_cons.1 he with rfl | he
    · exact h1
    · exact h2 e he
end
theorem xSameEs (l : List LEx) : SamEs l := sames_of l (same_items l)
end Go.Abs
namespace Go.Abs
open Go.Proofs
set_option autoImplicit false
set_option linter.all false
set_option maxRecDepth 100000
set_option maxHeartbeats 40000000
section
set_option maxHeartbeats 4000000
attribute [local simp ↓] wanted_at hbind_some
attribute [local simp] Gs_true Gs_false gcond_Gr Gr_true Gr_false abox frame0 int_beq int_bne aload astore partOf Keeps Same splice aUn aFieldAddr aField aBin aBinV aConvert aExtract aLen aBuild aBuild.go aalloc AS.Ext.refl AS.Ext.bump AS.Ext.setBox
theorem eqS0 (H : AS) : ACalls Tryz.prog 66 [PV.nilS, PV.nilS] H fun q H' => q = pb true ∧ H' = H := xEqS H 0 0 [] (by simp)
theorem eqE0 (H : AS) : ACalls Tryz.prog 65 [PV.nilS, PV.nilS] H fun q H' => q = pb true ∧ H' = H := xSameEs [] trivial (by simp) H 0 0
def LSt.body : LSt → List LSt | .mk _ _ _ _ _ b => b
def SamS (l : List LSt) : Prop := LSt.smL l → l.length < 1099511627776 → ∀ (H : AS) (c c' : Nat), ACalls Tryz.prog 21 [PV.sl c 14 (l.map (LSt.row c)), PV.sl c' 14 (l.map (LSt.row c'))] H fun q H' => q = pb true ∧ H' = H
theorem LSt.fields (c : Nat) (x : LSt) : ∃ o a n xs ns b, x = .mk o a n xs ns b := by cases x; exact ⟨_, _, _, _, _, _, rfl⟩
theorem samS_of (l : List LSt) (ih : ∀ e ∈ l, SamS e.body) (ih0 : l = [] ∨ SamS []) : SamS l := by
  intro hsm hl H c c'
  refine ACalls_intro Tryz.func21 rfl (by kernel_rfl) (by simp) fun hwf hbel => ?_
  repeat' first
    | refine T_seq ?_
    | refine T_rgn ?_
    | refine T_cd ?_
    | refine T_sk ?_
    | refine T_rt ?_
    | refine T_block ?_
    | refine T_ex ?_
    | refine Kt_then ?_
    | refine Kt_block ?_
    | refine Kr_then ?_
    | refine Kr_block ?_
    | refine Ke_here ?_
    | refine Ke_then ?_
    | refine Hid.mk ?_
    | refine Gs.mk (fun g => ?_) (fun g => ?_) <;> (try simp only [nm] at g) <;> try (exfalso; first | contradiction | omega)
    | refine Gr.mk (fun g => ?_) (fun g => ?_) <;> (try simp only [nm] at g) <;> try (exfalso; first | contradiction | omega)
    | (refine Run.of ?_; simp (maxSteps := 1000000) (disch := first | omega | assumption | (simp; done) | fail) [*, lenNilS, idx26s, wrap_nn, wrap_i64, LSt.len, LSt.take14, LSt.row_mk, int_bne, beq_bytes, wk_two, aStep_eq, box_sb])
  refine T_lp (fun k F H' => ∃ (i : Nat), k = l.length - i ∧ F 0 = PV.sl c 14 (l.map (LSt.row c)) ∧ F 1 = PV.sl c' 14 (l.map (LSt.row c')) ∧ F 13 = PV.sl c 14 (l.map (LSt.row c)) ∧ F 14 = pi l.length ∧ F 15 = pi i ∧ i ≤ l.length ∧ H.Ext H') _ ⟨0, rfl, by simp, by simp, by simp, by simp, by simp, Nat.zero_le _, .refl _⟩ ?_
  rintro k F H1 ⟨i, rfl, g0, g1, g13, g14, g15, hi, hext⟩
  have hn1 := hext.next
  obtain ⟨o, a, n, xs, ns, b, hx⟩ := LSt.fields c (nth l (i : Int))
  have hit : i < l.length → (LSt.mk o a n xs ns b).sm := fun h => hx ▸ LSt.smL_mem hsm (mem_nth h)
  have hib : i < l.length → SamS b := fun h => by have := ih _ (mem_nth h); rw [hx] at this; exact this
  have e1 : ¬ H1.next = H1.next + 1 := by omega
  have e2 : ¬ H1.next + 1 = H1.next := by omega
  repeat' first
    | refine T_seq ?_
    | refine T_rgn ?_
    | refine T_cd ?_
    | refine T_sk ?_
    | refine T_rt ?_
    | refine T_block ?_
    | refine T_ex ?_
    | refine Kt_then ?_
    | refine Kt_block ?_
    | refine Kr_then ?_
    | refine Kr_block ?_
    | refine Kr_loop ?_
    | refine Ke_here ?_
    | refine Ke_then ?_
    | refine Ke_loop ?_
    | refine Ke_block ?_
    | refine Hid.mk ?_
    | refine T_dr (id := 6) (fun _ => False) [11] (.free 0 (.free 1 (.free 2 (.free 3 (.free 4 (.free 5 (.free 6 (.free 7 (.two 8 9 (.sole 9 (.sole 10 (.sole 11 .done))) (.sole 8 (.sole 10 (.sole 11 .done)))))))))))) mix ?_
    | refine And.intro (fun _ h1 h2 => absurd h2 h1) ?_
    | refine And.intro ?_ ?_
    | (refine callR (eqE0 _) ?_; rintro _ Hz ⟨rfl, hz⟩; subst Hz)
    | (refine callR (eqS0 _) ?_; rintro _ Hz ⟨rfl, hz⟩; subst Hz)
    | (refine callR (xEqR _) ?_; rintro _ Hz ⟨rfl, hz⟩; subst Hz)
    | (refine callR ((ih0.resolve_left (fun h => absurd (show i < l.length by assumption) (by rw [h]; simp))) trivial (by simp) _ 0 0) ?_; rintro _ Hz ⟨rfl, hz⟩; subst Hz)
    | (refine callR (xSameEs xs (hit (by assumption)).2.1 (hit (by assumption)).1 _ _ _) ?_; rintro _ Hz ⟨rfl, hz⟩; subst Hz)
    | (refine callR (xEqS _ _ _ ns (hit (by assumption)).2.2.1) ?_; rintro _ Hz ⟨rfl, hz⟩; subst Hz)
    | (refine callR (hib (by assumption) (hit (by assumption)).2.2.2.2 (hit (by assumption)).2.2.2.1 _ _ _) ?_; rintro _ Hz ⟨rfl, hz⟩; subst Hz)
    | refine Gs.mk (fun g => ?_) (fun g => ?_) <;> (try simp only [nm] at g) <;> try (exfalso; first | contradiction | omega)
    | refine Gr.mk (fun g => ?_) (fun g => ?_) <;> (try simp only [nm] at g) <;> try (exfalso; first | contradiction | omega)
    | (refine Run.of ?_; simp (maxSteps := 1000000) (disch := first | omega | assumption | (simp; done) | fail) [*, lenNilS, idx26s, wrap_nn, wrap_i64, LSt.len, LSt.take14, LSt.row_mk, int_bne, beq_bytes, wk_two, aStep_eq, box_sb])
  all_goals first
    | (refine Kx.mk ?_; refine owes_one (.inr rfl) hwf rfl (by first | rfl | (simp [*]; done)) (by first | exact AS.Ext.refl _ | assumption | ((repeat (first | exact AS.Ext.refl _ | assumption | refine AS.Ext.bump ?_ | refine AS.Ext.kill (by first | omega | (simp; omega) | simp) ?_ | refine AS.Ext.setBox (by first | omega | (simp; omega)) ?_)); done)) ?_ ?_ <;> (first | (constructor <;> simp [Frozen]) | exact .val _))
    | (refine Kt_loop ⟨_, ?_, i + 1, rfl, ?_⟩ <;> (repeat' apply And.intro) <;> first | omega | (simp [*]; done) | ((repeat (first | exact AS.Ext.refl _ | assumption | refine AS.Ext.bump ?_ | refine AS.Ext.kill (by first | omega | (simp; omega) | simp) ?_ | refine AS.Ext.setBox (by first | omega | (simp; omega)) ?_)); done) | fail)
    | fail
theorem samS_nil : SamS [] := samS_of [] (by simp) (.inl rfl)
mutual
theorem samS_body : ∀ e : LSt, SamS e.body
  | .mk _ _ _ _ _ b => samS_of b (samS_items b) (.inr samS_nil)
theorem samS_items : ∀ l : List LSt, ∀ e ∈ l, SamS e.body
  | [] => by simp
  | x :: l => by
    have h1 := samS_body x
    have h2 := samS_items l
    intro e he
    rcases List.mem_cons.1 he with rfl | he
    · exact h1
    · exact h2 e he
end
theorem xSameStmts (l : List LSt) : SamS l := samS_of l (samS_items l) (.inr samS_nil)
end
section
variable {P : Program} {ops : Array Oper} {F : AF} {H : AS} {n b : Nat}
/-- An order: free ones first, then one of three. -/
inductive Od where
  | base (c : Ord)
  | pre (c : Ord) (r : Od)
  | three (i j k : Nat) (r s t : Od)
def Ord.onlyFree : Ord → Bool
  | .done => true
  | .free _ c => c.onlyFree
  | _ => false
def Ord.after : Ord → Array Bool → Array Bool
  | .free i c, l => c.after (l.setIfInBounds i true)
  | _, l => l
def freeFrom (ops : Array Oper) (late : List Nat) : Ord → Array Bool → Bool
  | .free i c, listed => (Region.ready .any ops listed).contains i && Region.free .any ops listed i && lateOk ops late i && freeFrom ops late c (listed.setIfInBounds i true)
  | .done, _ => true
  | _, _ => false
def Od.size : Od → Nat
  | .base c => c.size
  | .pre c r => c.size + r.size
  | .three _ _ _ r _ _ => r.size + 1
def Od.even : Od → Bool
  | .base c => c.even
  | .pre _ r => r.even
  | .three _ _ _ r s t => r.even && s.even && t.even && r.size == s.size && r.size == t.size
def odFrom (ops : Array Oper) (late : List Nat) : Od → Array Bool → Bool
  | .base c, listed => orderFrom ops late c listed
  | .pre c r, listed => freeFrom ops late c listed && odFrom ops late r (c.after listed)
  | .three i j k r s t, listed => Region.ready .any ops listed == [i, j, k] && odFrom ops late r (listed.setIfInBounds i true) && odFrom ops late s (listed.setIfInBounds j true) && odFrom ops late t (listed.setIfInBounds k true)
def odOk (ops : Array Oper) (late : List Nat) (c : Od) : Bool := c.size == ops.size && c.even && odFrom ops late c (Array.replicate ops.size false)
def aWalk3 (P : Program) (ops : Array Oper) (L : Nat → Prop) (late : List Nat) : Od → AF → AS → (AF → AS → Prop) → Prop
  | .base c, F, H, K => aWalk P ops L late c F H K
  | .pre c r, F, H, K => aWalk P ops L late c F H fun F' H' => aWalk3 P ops L late r F' H' K
  | .three i j k r s t, F, H, K => (aStep P ops i F H fun F' H' => Keeps L late i H H' ∧ aWalk3 P ops L late r F' H' K) ∧ (aStep P ops j F H fun F' H' => Keeps L late j H H' ∧ aWalk3 P ops L late s F' H' K) ∧ aStep P ops k F H fun F' H' => Keeps L late k H H' ∧ aWalk3 P ops L late t F' H' K
theorem aFree_sound {L : Nat → Prop} {late : List Nat} {K K0 : AF → AS → Prop} {fuel : Nat} : ∀ (c : Ord) (listed : Array Bool) (F : AF) (H : AS), freeFrom ops late c listed = true → aWalk P ops L late c F H K0 →
    (∀ F' H', K0 F' H' → aAny P ops (Keeps L late) K fuel (c.after listed) F' H') → aAny P ops (Keeps L late) K (c.size + fuel) listed F H
  | .done, listed, F, H, _, h, hk => by
    have := hk F H h
    simpa [Ord.size, Ord.after] using this
  | .sole i c, listed, F, H, ho, _, _ => by simp [freeFrom] at ho
  | .two i j c d, listed, F, H, ho, _, _ => by simp [freeFrom] at ho
  | .free i c, listed, F, H, ho, h, hK => by
    unfold freeFrom at ho
    rw [Bool.and_eq_true, Bool.and_eq_true, Bool.and_eq_true] at ho
    unfold aWalk at h
    have hsz : (Ord.free i c).size + fuel = (c.size + fuel) + 1 := by simp [Ord.size]; omega
    rw [hsz]
    split at h
    · exact h.elim
    · rename_i o hi
      have hr : i ∈ Region.ready .any ops listed := by simpa using ho.1.1.1
      have go0 : ∀ q, YieldsD P ops (fun _ => True) o q F → aWalk P ops L late c (F.put o.dst q) H K0 → aAny P ops (Keeps L late) K (c.size + fuel + 1) listed F H := fun q hy hk =>
        aAny_first (S := fun _ => True) (Keeps.refl L late) hi (c.size + fuel) listed F H (fun j oj hj hne hun hno => ⟨Region.free_spec hi ho.1.1.2 j oj hj hne hun hno, fun _ _ _ h => h⟩) hr hy trivial (aFree_sound c _ _ H ho.2 hk hK)
      have go : ∀ q, (match o.op with | .load .. | .call .. => True | _ => False) → aWanted ops F o = some true → (∀ H', Same L H H' → aOp P F H' o fun r H'' => r = q ∧ H'' = H') → aWalk P ops L late c (F.put o.dst q) H K0 → aAny P ops (Keeps L late) K (c.size + fuel + 1) listed F H := fun q hkind hw hq hk =>
        aAny_first (S := Same L H) (Keeps.refl L late) hi (c.size + fuel) listed F H (fun j oj hj hne hun hno => ⟨Region.free_spec hi ho.1.1.2 j oj hj hne hun hno, fun _ _ hJ hs => hs.trans (hJ (lateOk_spec hi ho.1.2 hkind hj hno))⟩) hr (.inl ⟨hw, hq⟩) ⟨fun _ _ => rfl, rfl⟩ (aFree_sound c _ _ H ho.2 hk hK)
      split at h
      · rename_i hw
        exact go0 _ (.inr ⟨hw, rfl⟩) h
      · exact h.elim
      · rename_i hw
        split at h
        · rename_i q hp
          exact go0 q (.inl ⟨hw, fun H' _ => aOp_of_pure hp ⟨rfl, rfl⟩⟩) h
        · rename_i hp
          obtain ⟨dst, op, ty, pos, after, guard⟩ := o
          dsimp only at h go go0
          split at h
          · rename_i t a
            split at h
            · rename_i cc cells e
              split at h
              · rename_i q hq
                exact go q trivial hw (fun H' _ => by unfold aOp; dsimp only; rw [e]; simp [aload, hq]) h
              · exact h.elim
            · rename_i id vl row off e
              split at h
              · rename_i q hq
                refine go q trivial hw (fun H' hS' => ?_) h.2
                unfold aOp; dsimp only; rw [e]
                have : aload P H' t (.ptr id vl row off) = aload P H t (.ptr id vl row off) := by
                  unfold aload; dsimp only; rw [hS'.1 id h.1]
                rw [this, hq]
                exact ⟨rfl, rfl⟩
              · exact h.elim
            · exact h.elim
          · rename_i f args tys
            split at h
            · rename_i g caps e
              obtain ⟨q, hq, hk⟩ := h
              exact go q trivial hw (fun H' hS' => by unfold aOp; dsimp only; rw [e]; exact hq H' hS') hk
            · exact h.elim
          · rename_i op t x y yt
            split at h
            · rename_i b e
              refine go0 _ (.inl ⟨hw, fun H' _ => ?_⟩) h.2
              unfold aOp; dsimp only; rw [hp]; dsimp only
              simp only [e]
              exact ⟨h.1, fun r hr => by simp at hr; simp [hr]⟩
            · rename_i b e
              refine go0 _ (.inl ⟨hw, fun H' _ => ?_⟩) h.2
              unfold aOp; dsimp only; rw [hp]; dsimp only
              simp only [e]
              exact ⟨h.1, fun r hr => by simp at hr; simp [hr]⟩
            · exact h.elim
          · exact h.elim
theorem aWalk3_sound {L : Nat → Prop} {late : List Nat} {K : AF → AS → Prop} : ∀ (c : Od) (listed : Array Bool) (F : AF) (H : AS), c.even = true → odFrom ops late c listed = true → aWalk3 P ops L late c F H K →
    aAny P ops (Keeps L late) K c.size listed F H
  | .base c, listed, F, H, hev, ho, h => aWalk_sound c listed F H hev ho h
  | .pre c r, listed, F, H, hev, ho, h => by
    simp only [odFrom, Bool.and_eq_true] at ho
    exact aFree_sound c listed F H ho.1 h fun F' H' hk => aWalk3_sound r _ F' H' hev ho.2 hk
  | .three i j k r s t, listed, F, H, hev, ho, h => by
    simp only [odFrom, Bool.and_eq_true] at ho
    simp only [Od.even, Bool.and_eq_true, beq_iff_eq] at hev
    obtain ⟨⟨⟨⟨e1, e2⟩, e3⟩, e4⟩, e5⟩ := hev
    have hr : Region.ready .any ops listed = [i, j, k] := by simpa using ho.1.1.1
    unfold Od.size aAny
    constructor
    · intro e; rw [hr] at e; cases e
    intro m hm
    rw [hr] at hm
    have : m = i ∨ m = j ∨ m = k := by simpa using hm
    rcases this with rfl | rfl | rfl
    · exact aStep_mono (fun F' H' hk => ⟨hk.1, aWalk3_sound r _ F' H' e1 ho.1.1.2 hk.2⟩) h.1
    · refine aStep_mono (fun F' H' hk => ⟨hk.1, ?_⟩) h.2.1
      rw [e4]
      exact aWalk3_sound s _ F' H' e2 ho.1.2 hk.2
    · refine aStep_mono (fun F' H' hk => ⟨hk.1, ?_⟩) h.2.2
      rw [e5]
      exact aWalk3_sound t _ F' H' e3 ho.2 hk.2
theorem T_draw3 {id : Nat} {Q : Exit → AF → AS → Prop} (L : Nat → Prop) (late : List Nat) (c : Od) (hm : P.follows .mixedOrders = true) (hok : regionOk n ops = true) (ho : odOk ops late c = true) (h : aWalk3 P ops L late c F H (Q .normal)) : T P n b (.region id ops true) F H Q := fun G0 G w a _ hle hr hF => by
  unfold odOk at ho
  rw [Bool.and_eq_true, Bool.and_eq_true] at ho
  have hl : c.size = ops.size := by simpa using ho.1.1
  refine wp_region_any hm ?_
  have := aWalk3_sound c _ F H ho.1.2 ho.2 h
  rw [hl] at this
  exact aAny_sound hok ops.size _ hle (hr.drew _) hF this
theorem T_dr3 {id : Nat} {Q : Exit → AF → AS → Prop} {l : List Oper} (L : Nat → Prop) (late : List Nat) (c : Od) (hm : P.follows .mixedOrders = true) (h : Run (aWalk3 P l.toArray L late c F H (@Kt ⟨Q .normal⟩))) (ho : odOk l.toArray late c = true := by kernel_rfl) (hok : regionOk n l.toArray = true := by kernel_rfl) : T P n b (.region id l.toArray true) F H Q :=
  (T_draw3 (Q := fun e F H => match e with | .normal => @Kt ⟨Q .normal⟩ F H | e => Q e F H) L late c hm hok ho h.run).mono fun e F H _ hq => by
    cases e <;> first | exact hq.get | exact hq
theorem wk3_base {L : Nat → Prop} {late : List Nat} {K : AF → AS → Prop} (c : Ord) : aWalk3 P ops L late (.base c) F H K = aWalk P ops L late c F H K := by rw [aWalk3]
theorem wk3_pre {L : Nat → Prop} {late : List Nat} {K : AF → AS → Prop} (c : Ord) (r : Od) : aWalk3 P ops L late (.pre c r) F H K = aWalk P ops L late c F H fun F' H' => aWalk3 P ops L late r F' H' K := by rw [aWalk3]
theorem wk3_three {L : Nat → Prop} {late : List Nat} {K : AF → AS → Prop} (i j k : Nat) (r s t : Od) : aWalk3 P ops L late (.three i j k r s t) F H K = ((aStep P ops i F H fun F' H' => Keeps L late i H H' ∧ aWalk3 P ops L late r F' H' K) ∧ (aStep P ops j F H fun F' H' => Keeps L late j H H' ∧ aWalk3 P ops L late s F' H' K) ∧ aStep P ops k F H fun F' H' => Keeps L late k H H' ∧ aWalk3 P ops L late t F' H' K) := by rw [aWalk3]
end
section
set_option maxHeartbeats 4000000
attribute [local simp ↓] wanted_at hbind_some
attribute [local simp] Gs_true Gs_false gcond_Gr Gr_true Gr_false abox frame0 int_beq int_bne aload astore partOf Keeps Same splice aUn aFieldAddr aField aBin aBinV aConvert aExtract aLen aBuild aBuild.go aalloc AS.Ext.refl AS.Ext.bump AS.Ext.setBox
/-- NOT, at a place. -/
def yNot (x : LEx) (a : Int) : LEx := .mk 16 a eE eE 0 0 eE [x] []
theorem index46_hit : ∀ (l : List UInt8) (i : Nat), (∀ j, j < i → l[j]? ≠ some 46) → l[i]? = some 46 → Lib.index l [46] = i
  | [], i, _, h => by simp at h
  | b :: l, 0, _, h => by
    simp at h; subst h; rw [Lib.index]; simp [List.isPrefixOf]
  | b :: l, i + 1, hn, h => by
    have hb : ¬ b = 46 := fun e => hn 0 (by omega) (by simp [e])
    have hb' : ¬ (46 : UInt8) = b := fun e => hb e.symm
    have ih := index46_hit l i (fun j hj => by have := hn (j + 1) (by omega); simpa using this) (by simpa using h)
    rw [Lib.index, ih]
    simp [List.isPrefixOf, hb']
theorem index46_none : ∀ (l : List UInt8), (∀ j, j < l.length → l[j]? ≠ some 46) → Lib.index l [46] = -1
  | [], _ => by simp [Lib.index]
  | b :: l, hn => by
    have hb : ¬ b = 46 := fun e => hn 0 (by simp) (by simp [e])
    have hb' : ¬ (46 : UInt8) = b := fun e => hb e.symm
    have ih := index46_none l (fun j hj => by have := hn (j + 1) (by simp; omega); simpa using this)
    rw [Lib.index, ih]
    simp [List.isPrefixOf, hb']
theorem plc_hit (s : ByteArray) (a : Int) (i : Nat) (hn : ∀ j, j < i → s.data.toList[j]? ≠ some 46) (h : s.data.toList[i]? = some 46) : xPlc s a = .mk 20 a (s.extract 0 i) (s.extract (i + 1) s.size) 0 0 eE [] [] := by
  have hi := index46_hit _ i hn h
  have hlt : i < s.data.toList.length := (List.getElem?_eq_some_iff.1 h).1
  have e : cut46 s = (s.data.toList.take i, s.data.toList.drop (i + 1), true) := by
    unfold cut46 Lib.cut
    rw [hi, if_pos (by omega)]; simp
  unfold xPlc
  rw [e]
  simp only [if_true]
  have e1 : (⟨(s.data.toList.take i).toArray⟩ : ByteArray) = s.extract 0 i := by
    apply ByteArray.ext; simp only [ByteArray.data_extract]; apply Array.ext'; rw [Array.toList_extract]; simp [List.extract]
  have e2 : (⟨(s.data.toList.drop (i + 1)).toArray⟩ : ByteArray) = s.extract (i + 1) s.size := by
    apply ByteArray.ext; simp only [ByteArray.data_extract]; apply Array.ext'; rw [Array.toList_extract]; simp [List.extract]; rw [List.take_of_length_le (by simp)]
  rw [e1, e2]
theorem plc_none (s : ByteArray) (a : Int) (hn : ∀ j, j < s.size → s.data.toList[j]? ≠ some 46) : xPlc s a = xNam s a := by
  have hi := index46_none s.data.toList (fun j hj => hn j (by simpa using hj))
  have e : (cut46 s).2.2 = false := by unfold cut46 Lib.cut; rw [hi, if_neg (by omega)]
  unfold xPlc
  rw [e]; simp
theorem emp_eE : ByteArray.empty = eE := rfl
theorem at46 {s : ByteArray} {i : Nat} (hi : i < s.size) : byteAt s i = 46 ↔ s.data.toList[i]? = some 46 := by
  have hg : s.data.toList[i]? = some (s.data.toList[i]'(by simpa using hi)) := List.getElem?_eq_getElem (by simpa using hi)
  unfold byteAt
  rw [Int.toNat_natCast, hg]
  simp only [Option.getD_some, Option.some.injEq]
  constructor
  · intro h; apply UInt8.toNat_inj.1; exact_mod_cast h
  · intro h; rw [h]; rfl
theorem yNamed (H : AS) (s : ByteArray) (a : Int) : ACalls Tryz.prog 62 [ps s, pi a] H fun q H' => q = .agg ((xNam s a).row H.color) ∧ H' = H := by
  skip
  all_goals (refine ACalls_intro Tryz.func62 rfl (by kernel_rfl) (by simp) fun hwf hbel => ?_)
  all_goals (
    repeat' first
      | refine T_seq ?_
      | refine T_rgn ?_
      | refine T_cd ?_
      | refine T_sk ?_
      | refine T_rt ?_
      | refine T_block ?_
      | refine T_ex ?_
      | refine Kt_then ?_
      | refine Kt_block ?_
      | refine Kr_then ?_
      | refine Kr_block ?_
      | refine Ke_here ?_
      | refine Ke_then ?_
      | refine Hid.mk ?_
      | refine Gs.mk (fun g => ?_) (fun g => ?_) <;> (try simp only [nm] at g) <;> try (exfalso; first | contradiction | omega)
      | refine Gr.mk (fun g => ?_) (fun g => ?_) <;> (try simp only [nm] at g) <;> try (exfalso; first | contradiction | omega)
      | (refine Run.of ?_; simp (maxSteps := 1000000) (disch := first | omega | assumption | (simp; done) | fail) [*]))
  all_goals ((first | refine Kx.mk ?_ | refine Kt.mk ?_); refine owes_fz (H1 := H) [_] (l := [.cell 4 121]) (by first | exact .inr rfl | exact .inl rfl) hwf (Nat.le_refl _) rfl ?_ ?_ ⟨rfl, rfl⟩ <;> first | (exact below_agg1 (LEx.row_below _ _ _)) | (exact below_agg1 (LSt.row_below _ _ _)) | (simp (maxDischargeDepth := 20) [resP, packed, aload, partOf, frzVs, frzV, frzL, frz_nil, frz_msl, frz, LEx.row_mk, LSt.row_mk, xNot, xTwo, xTru, xNam, sSet, sIf, LEx.at', *]; done) | (simp (maxDischargeDepth := 20) [resP, packed, aload, partOf, frzVs, frzV, frzL, frz_nil, frz_msl, frz, LEx.row_mk, LSt.row_mk, xNot, xTwo, xTru, xNam, sSet, sIf, LEx.at', *]; first | (exact (by repeat (first | exact AS.Ext.refl _ | assumption | refine AS.Ext.bump ?_ | refine AS.Ext.kill (by first | omega | (simp; omega) | simp) ?_ | refine AS.Ext.setBox (by first | omega | (simp; omega)) ?_)); done) | (refine ⟨?_, (by repeat (first | exact AS.Ext.refl _ | assumption | refine AS.Ext.bump ?_ | refine AS.Ext.setBox (by first | omega | (simp; omega)) ?_))⟩; done)) | fail)
theorem yNot_ (H : AS) (c : Nat) (x : LEx) (a : Int) (hc : c = H.color) : ACalls Tryz.prog 95 [.agg (x.row c), pi a] H fun q H' => q = .agg ((yNot x a).row H.color) ∧ H' = H := by
  obtain ⟨xo, xa, xn, xf, xk, xb, xt, xs, xm⟩ := x
  simp only [LEx.row_mk]
  subst hc
  all_goals (refine ACalls_intro Tryz.func95 rfl (by kernel_rfl) (by simp) fun hwf hbel => ?_)
  all_goals (
    repeat' first
      | refine T_seq ?_
      | refine T_rgn ?_
      | refine T_cd ?_
      | refine T_sk ?_
      | refine T_rt ?_
      | refine T_block ?_
      | refine T_ex ?_
      | refine Kt_then ?_
      | refine Kt_block ?_
      | refine Kr_then ?_
      | refine Kr_block ?_
      | refine Ke_here ?_
      | refine Ke_then ?_
      | refine Hid.mk ?_
      | (refine eitherK.raw ?_; simp (maxSteps := 1000000) (disch := first | omega | assumption | (simp; done) | fail) [*, box_sb])
      | refine Gs.mk (fun g => ?_) (fun g => ?_) <;> (try simp only [nm] at g) <;> try (exfalso; first | contradiction | omega)
      | refine Gr.mk (fun g => ?_) (fun g => ?_) <;> (try simp only [nm] at g) <;> try (exfalso; first | contradiction | omega)
      | (refine Run.of ?_; simp (maxSteps := 1000000) (disch := first | omega | assumption | (simp; done) | fail) [*]))
  all_goals ((first | refine Kx.mk ?_ | refine Kt.mk ?_); refine owes_fz (H1 := H) [_] (l := [.cell 4 121]) (by first | exact .inr rfl | exact .inl rfl) hwf (Nat.le_refl _) rfl ?_ ?_ ⟨rfl, rfl⟩ <;> first | (exact below_agg1 (LEx.row_below _ _ _)) | (exact below_agg1 (LSt.row_below _ _ _)) | (simp (maxDischargeDepth := 20) [resP, packed, aload, partOf, frzVs, frzV, frzL, frz_nil, frz_msl, frz, LEx.row_mk, LSt.row_mk, yNot, xTwo, xTru, xNam, sSet, sIf, LEx.at', *]; done) | (simp (maxDischargeDepth := 20) [resP, packed, aload, partOf, frzVs, frzV, frzL, frz_nil, frz_msl, frz, LEx.row_mk, LSt.row_mk, yNot, xTwo, xTru, xNam, sSet, sIf, LEx.at', *]; first | (exact (by repeat (first | exact AS.Ext.refl _ | assumption | refine AS.Ext.bump ?_ | refine AS.Ext.kill (by first | omega | (simp; omega) | simp) ?_ | refine AS.Ext.setBox (by first | omega | (simp; omega)) ?_)); done) | (refine ⟨?_, (by repeat (first | exact AS.Ext.refl _ | assumption | refine AS.Ext.bump ?_ | refine AS.Ext.setBox (by first | omega | (simp; omega)) ?_))⟩; done)) | fail)
theorem yTwo_ (H : AS) (op a : Int) (c : Nat) (x y : LEx) (hc : c = H.color) : ACalls Tryz.prog 94 [pi op, .agg (x.row c), .agg (y.row c), pi a] H fun q H' => q = .agg ((xTwo op a x y).row H.color) ∧ H' = H := by
  obtain ⟨xo, xa, xn, xf, xk, xb, xt, xs, xm⟩ := x
  simp only [LEx.row_mk]
  obtain ⟨yo, ya, yn, yf, yk, yb, yt, ys, ym⟩ := y
  simp only [LEx.row_mk]
  subst hc
  all_goals (refine ACalls_intro Tryz.func94 rfl (by kernel_rfl) (by simp) fun hwf hbel => ?_)
  all_goals (
    repeat' first
      | refine T_seq ?_
      | refine T_rgn ?_
      | refine T_cd ?_
      | refine T_sk ?_
      | refine T_rt ?_
      | refine T_block ?_
      | refine T_ex ?_
      | refine Kt_then ?_
      | refine Kt_block ?_
      | refine Kr_then ?_
      | refine Kr_block ?_
      | refine Ke_here ?_
      | refine Ke_then ?_
      | refine Hid.mk ?_
      | (refine eitherK.raw ?_; simp (maxSteps := 1000000) (disch := first | omega | assumption | (simp; done) | fail) [*, box_sb])
      | refine Gs.mk (fun g => ?_) (fun g => ?_) <;> (try simp only [nm] at g) <;> try (exfalso; first | contradiction | omega)
      | refine Gr.mk (fun g => ?_) (fun g => ?_) <;> (try simp only [nm] at g) <;> try (exfalso; first | contradiction | omega)
      | (refine Run.of ?_; simp (maxSteps := 1000000) (disch := first | omega | assumption | (simp; done) | fail) [*]))
  all_goals ((first | refine Kx.mk ?_ | refine Kt.mk ?_); refine owes_fz (H1 := H) [_] (l := [.cell 8 121]) (by first | exact .inr rfl | exact .inl rfl) hwf (Nat.le_refl _) rfl ?_ ?_ ⟨rfl, rfl⟩ <;> first | (exact below_agg1 (LEx.row_below _ _ _)) | (exact below_agg1 (LSt.row_below _ _ _)) | (simp (maxDischargeDepth := 20) [resP, packed, aload, partOf, frzVs, frzV, frzL, frz_nil, frz_msl, frz, LEx.row_mk, LSt.row_mk, xNot, xTwo, xTru, xNam, sSet, sIf, LEx.at', *]; done) | (simp (maxDischargeDepth := 20) [resP, packed, aload, partOf, frzVs, frzV, frzL, frz_nil, frz_msl, frz, LEx.row_mk, LSt.row_mk, xNot, xTwo, xTru, xNam, sSet, sIf, LEx.at', *]; first | (exact (by repeat (first | exact AS.Ext.refl _ | assumption | refine AS.Ext.bump ?_ | refine AS.Ext.kill (by first | omega | (simp; omega) | simp) ?_ | refine AS.Ext.setBox (by first | omega | (simp; omega)) ?_)); done) | (refine ⟨?_, (by repeat (first | exact AS.Ext.refl _ | assumption | refine AS.Ext.bump ?_ | refine AS.Ext.setBox (by first | omega | (simp; omega)) ?_))⟩; done)) | fail)
theorem ySet_ (H : AS) (a : Int) (c : Nat) (x y : LEx) (hc : c = H.color) : ACalls Tryz.prog 61 [.agg (x.row c), .agg (y.row c), pi a] H fun q H' => q = .agg ((sSet a x y).row H.color) ∧ H' = H := by
  obtain ⟨xo, xa, xn, xf, xk, xb, xt, xs, xm⟩ := x
  simp only [LEx.row_mk]
  obtain ⟨yo, ya, yn, yf, yk, yb, yt, ys, ym⟩ := y
  simp only [LEx.row_mk]
  subst hc
  all_goals (refine ACalls_intro Tryz.func61 rfl (by kernel_rfl) (by simp) fun hwf hbel => ?_)
  all_goals (
    repeat' first
      | refine T_seq ?_
      | refine T_rgn ?_
      | refine T_cd ?_
      | refine T_sk ?_
      | refine T_rt ?_
      | refine T_block ?_
      | refine T_ex ?_
      | refine Kt_then ?_
      | refine Kt_block ?_
      | refine Kr_then ?_
      | refine Kr_block ?_
      | refine Ke_here ?_
      | refine Ke_then ?_
      | refine Hid.mk ?_
      | (refine eitherK.raw ?_; simp (maxSteps := 1000000) (disch := first | omega | assumption | (simp; done) | fail) [*, box_sb])
      | refine Gs.mk (fun g => ?_) (fun g => ?_) <;> (try simp only [nm] at g) <;> try (exfalso; first | contradiction | omega)
      | refine Gr.mk (fun g => ?_) (fun g => ?_) <;> (try simp only [nm] at g) <;> try (exfalso; first | contradiction | omega)
      | (refine Run.of ?_; simp (maxSteps := 1000000) (disch := first | omega | assumption | (simp; done) | fail) [*]))
  all_goals ((first | refine Kx.mk ?_ | refine Kt.mk ?_); refine owes_fz (H1 := H) [_] (l := [.cell 6 51]) (by first | exact .inr rfl | exact .inl rfl) hwf (Nat.le_refl _) rfl ?_ ?_ ⟨rfl, rfl⟩ <;> first | (exact below_agg1 (LEx.row_below _ _ _)) | (exact below_agg1 (LSt.row_below _ _ _)) | (simp (maxDischargeDepth := 20) [resP, packed, aload, partOf, frzVs, frzV, frzL, frz_nil, frz_msl, frz, LEx.row_mk, LSt.row_mk, xNot, xTwo, xTru, xNam, sSet, sIf, LEx.at', *]; done) | (simp (maxDischargeDepth := 20) [resP, packed, aload, partOf, frzVs, frzV, frzL, frz_nil, frz_msl, frz, LEx.row_mk, LSt.row_mk, xNot, xTwo, xTru, xNam, sSet, sIf, LEx.at', *]; first | (exact (by repeat (first | exact AS.Ext.refl _ | assumption | refine AS.Ext.bump ?_ | refine AS.Ext.kill (by first | omega | (simp; omega) | simp) ?_ | refine AS.Ext.setBox (by first | omega | (simp; omega)) ?_)); done) | (refine ⟨?_, (by repeat (first | exact AS.Ext.refl _ | assumption | refine AS.Ext.bump ?_ | refine AS.Ext.setBox (by first | omega | (simp; omega)) ?_))⟩; done)) | fail)
theorem yBool (H : AS) (b : Bool) : ACalls Tryz.prog 121 [pb b] H fun q H' => q = .agg [k8 1, k64 (if b = true then 1 else 0), ps ⟨#[]⟩] ∧ H' = H := by
  cases b
  all_goals (refine ACalls_intro Tryz.func121 rfl (by kernel_rfl) (by simp) fun hwf hbel => ?_)
  all_goals (
    repeat' first
      | refine T_seq ?_
      | refine T_rgn ?_
      | refine T_cd ?_
      | refine T_sk ?_
      | refine T_rt ?_
      | refine T_block ?_
      | refine T_ex ?_
      | refine Kt_then ?_
      | refine Kt_block ?_
      | refine Kr_then ?_
      | refine Kr_block ?_
      | refine Ke_here ?_
      | refine Ke_then ?_
      | refine Hid.mk ?_
      | refine Gs.mk (fun g => ?_) (fun g => ?_) <;> (try simp only [nm] at g) <;> try (exfalso; first | contradiction | omega)
      | refine Gr.mk (fun g => ?_) (fun g => ?_) <;> (try simp only [nm] at g) <;> try (exfalso; first | contradiction | omega)
      | (refine Run.of ?_; simp (maxSteps := 1000000) (disch := first | omega | assumption | (simp; done) | fail) [*]))
  all_goals ((first | refine Kx.mk ?_ | refine Kt.mk ?_); refine owes_fz (H1 := H) [_] (l := [.cell 2 119]) (by first | exact .inr rfl | exact .inl rfl) hwf (Nat.le_refl _) rfl ?_ ?_ ⟨rfl, rfl⟩ <;> first | (exact below_agg1 (by simp)) | (exact below_agg1 (LSt.row_below _ _ _)) | (simp (maxDischargeDepth := 20) [resP, packed, aload, partOf, frzVs, frzV, frzL, frz_nil, frz_msl, frz, LEx.row_mk, LSt.row_mk, xNot, xTwo, xTru, xNam, sSet, sIf, LEx.at', *]; done) | (simp (maxDischargeDepth := 20) [resP, packed, aload, partOf, frzVs, frzV, frzL, frz_nil, frz_msl, frz, LEx.row_mk, LSt.row_mk, xNot, xTwo, xTru, xNam, sSet, sIf, LEx.at', *]; first | (exact (by repeat (first | exact AS.Ext.refl _ | assumption | refine AS.Ext.bump ?_ | refine AS.Ext.kill (by first | omega | (simp; omega) | simp) ?_ | refine AS.Ext.setBox (by first | omega | (simp; omega)) ?_)); done) | (refine ⟨?_, (by repeat (first | exact AS.Ext.refl _ | assumption | refine AS.Ext.bump ?_ | refine AS.Ext.setBox (by first | omega | (simp; omega)) ?_))⟩; done)) | fail)
theorem yTruth_ (H : AS) (b : Bool) (a : Int) : ACalls Tryz.prog 97 [pb b, pi a] H fun q H' => q = .agg ((xTru b a).row H.color) ∧ H' = H := by
  cases b
  all_goals (refine ACalls_intro Tryz.func97 rfl (by kernel_rfl) (by simp) fun hwf hbel => ?_)
  all_goals (
    repeat' first
      | refine T_seq ?_
      | refine T_rgn ?_
      | refine T_cd ?_
      | refine T_sk ?_
      | refine T_rt ?_
      | refine T_block ?_
      | refine T_ex ?_
      | refine Kt_then ?_
      | refine Kt_block ?_
      | refine Kr_then ?_
      | refine Kr_block ?_
      | refine Ke_here ?_
      | refine Ke_then ?_
      | refine Hid.mk ?_
      | (refine callR (yBool _ _) ?_; rintro _ Hz ⟨rfl, hz⟩; subst Hz)
      | refine Gs.mk (fun g => ?_) (fun g => ?_) <;> (try simp only [nm] at g) <;> try (exfalso; first | contradiction | omega)
      | refine Gr.mk (fun g => ?_) (fun g => ?_) <;> (try simp only [nm] at g) <;> try (exfalso; first | contradiction | omega)
      | (refine Run.of ?_; simp (maxSteps := 1000000) (disch := first | omega | assumption | (simp; done) | fail) [*]))
  all_goals ((first | refine Kx.mk ?_ | refine Kt.mk ?_); refine owes_fz (H1 := H) [_] (l := [.cell 4 121]) (by first | exact .inr rfl | exact .inl rfl) hwf (Nat.le_refl _) rfl ?_ ?_ ⟨rfl, rfl⟩ <;> first | (exact below_agg1 (LEx.row_below _ _ _)) | (exact below_agg1 (LSt.row_below _ _ _)) | (simp (maxDischargeDepth := 20) [resP, packed, aload, partOf, frzVs, frzV, frzL, frz_nil, frz_msl, frz, LEx.row_mk, LSt.row_mk, xNot, xTwo, xTru, xNam, sSet, sIf, LEx.at', *]; done) | (simp (maxDischargeDepth := 20) [resP, packed, aload, partOf, frzVs, frzV, frzL, frz_nil, frz_msl, frz, LEx.row_mk, LSt.row_mk, xNot, xTwo, xTru, xNam, sSet, sIf, LEx.at', *]; first | (exact (by repeat (first | exact AS.Ext.refl _ | assumption | refine AS.Ext.bump ?_ | refine AS.Ext.kill (by first | omega | (simp; omega) | simp) ?_ | refine AS.Ext.setBox (by first | omega | (simp; omega)) ?_)); done) | (refine ⟨?_, (by repeat (first | exact AS.Ext.refl _ | assumption | refine AS.Ext.bump ?_ | refine AS.Ext.setBox (by first | omega | (simp; omega)) ?_))⟩; done)) | fail)
theorem yHidden (H : AS) (x : UInt8) (n : Nat) (hn : n < 1073741824) : ACalls Tryz.prog 40 [ps ⟨#[x]⟩, pi n] H fun q H' => q = ps (hid [95, x] n) ∧ H' = H := by
  have hsz := hid_size [] n (by omega)
  simp only [List.length_nil, Nat.zero_add] at hsz
  have h1 : (⟨#[95]⟩ : ByteArray) ++ ⟨#[x]⟩ ++ hid [] n = hid [95, x] n := by
    rw [← hid_app [95, x] n]; congr 1
  refine ACalls_intro Tryz.func40 rfl (by kernel_rfl) (by simp) fun hwf hbel => ?_
  repeat' first
    | refine T_seq ?_
    | refine T_rgn ?_
    | refine T_cd ?_
    | refine T_sk ?_
    | refine T_rt ?_
    | refine T_block ?_
    | refine T_ex ?_
    | refine Kt_then ?_
    | refine Kt_block ?_
    | refine Kr_then ?_
    | refine Kr_block ?_
    | refine Ke_here ?_
    | refine Ke_then ?_
    | refine Hid.mk ?_
    | (refine callR (itoaIs _ n (by omega)) ?_; rintro _ Hz ⟨rfl, hz⟩; subst Hz)
    | refine Gs.mk (fun g => ?_) (fun g => ?_) <;> (try simp only [nm] at g) <;> try (exfalso; first | contradiction | omega)
    | refine Gr.mk (fun g => ?_) (fun g => ?_) <;> (try simp only [nm] at g) <;> try (exfalso; first | contradiction | omega)
    | (refine Run.of ?_; simp (maxSteps := 1000000) (disch := first | omega | assumption | (simp; done) | fail) [*, app_size, catIf])
  all_goals (refine Kx.mk ?_; refine owes_one (.inr rfl) hwf rfl (by first | (simp [*]; done) | (simp [h1]; done) | exact congrArg (fun z => ps z) h1) (.refl _) ?_ ?_ <;> (first | (constructor <;> simp [Frozen]) | exact .val _))
theorem yPlace (H : AS) (s : ByteArray) (a : Int) (hs : s.size ≤ 262145) : ACalls Tryz.prog 93 [ps s, pi a] H fun q H' => q = .agg ((xPlc s a).row H.color) ∧ H' = H := by
  refine ACalls_intro Tryz.func93 rfl (by kernel_rfl) (by simp) fun hwf hbel => ?_
  repeat' first
    | refine T_seq ?_
    | refine T_rgn ?_
    | refine T_cd ?_
    | refine T_sk ?_
    | refine T_rt ?_
    | refine T_block ?_
    | refine T_ex ?_
    | refine Kt_then ?_
    | refine Kt_block ?_
    | refine Kr_then ?_
    | refine Kr_block ?_
    | refine Ke_here ?_
    | refine Ke_then ?_
    | refine Hid.mk ?_
    | refine Gs.mk (fun g => ?_) (fun g => ?_) <;> (try simp only [nm] at g) <;> try (exfalso; first | contradiction | omega)
    | refine Gr.mk (fun g => ?_) (fun g => ?_) <;> (try simp only [nm] at g) <;> try (exfalso; first | contradiction | omega)
    | (refine Run.of ?_; simp (maxSteps := 1000000) (disch := first | omega | assumption | (simp; done) | fail) [*, box_sb])
  refine T_lp (fun k F H' => ∃ (i : Nat), k = s.size - i ∧ F 0 = ps s ∧ F 1 = pi a ∧ F 4 = .ptr H.next 1 0 0 ∧ F 5 = pi i ∧ i ≤ s.size ∧ (∀ j, j < i → s.data.toList[j]? ≠ some 46) ∧ H'.box H.next = some [[pi 0, pi 0, ps ⟨#[]⟩, ps ⟨#[]⟩, k8 0, k64 0, ps ⟨#[]⟩, .nil, .nil, k8 0, pi 0, pi 0, pi 0, pi 0]] ∧ H.Ext H' ∧ H.next < H'.next) _ ⟨0, rfl, by simp, by simp, by simp, by simp, Nat.zero_le _, fun j hj => by omega, by simp, (by repeat (first | exact AS.Ext.refl _ | assumption | refine AS.Ext.bump ?_ | refine AS.Ext.setBox (by first | omega | (simp; omega)) ?_)), by simp⟩ ?_
  rintro k F H1 ⟨i, rfl, g0, g1, g4, g5, hi, hnj, bz, hext, hl1⟩
  repeat' first
    | refine T_seq ?_
    | refine T_rgn ?_
    | refine T_cd ?_
    | refine T_sk ?_
    | refine T_rt ?_
    | refine T_block ?_
    | refine T_ex ?_
    | refine Kt_then ?_
    | refine Kt_block ?_
    | refine Kr_then ?_
    | refine Kr_block ?_
    | refine Kr_loop ?_
    | refine Ke_here ?_
    | refine Ke_then ?_
    | refine Ke_loop ?_
    | refine Ke_block ?_
    | refine Hid.mk ?_
    | refine T_dr (id := 5) (fun _ => True) [9] (.free 0 (.free 1 (.free 2 (.free 3 (.free 4 (.free 5 (.free 6 (.free 7 (.free 8 (.sole 9 .done)))))))))) mix ?_
    | refine Gs.mk (fun g => ?_) (fun g => ?_) <;> (try simp only [nm] at g) <;> try (exfalso; first | contradiction | omega)
    | refine Gr.mk (fun g => ?_) (fun g => ?_) <;> (try simp only [nm] at g) <;> try (exfalso; first | contradiction | omega)
    | (refine Run.of ?_; simp (maxSteps := 1000000) (disch := first | omega | assumption | (simp; done) | fail) [*, idx9, cutAB, cutA, cutB, wrap_i64, wrap_nn, ext_size, beq_bytes, app_size, catIf, bemp])
  all_goals first
    | (refine Kt_loop ⟨_, ?_, i + 1, rfl, ?_⟩ <;> (repeat' apply And.intro) <;> first | omega | (simp [*]; done) | (intro j hj; by_cases hji : j = i; (subst hji; exact fun e => absurd ((at46 (by omega)).2 e) (by omega)); exact hnj j (by omega)) | assumption | fail)
    | (have hpl := plc_hit s a i hnj ((at46 (by omega)).1 (by assumption)); refine Kx.mk ?_; refine owes_fz (H1 := H) [_] (l := [.cell 4 121]) (.inr rfl) hwf (Nat.le_refl _) rfl ?_ ?_ ⟨rfl, rfl⟩ <;> first | (exact below_agg1 (LEx.row_below _ _ _)) | (simp (maxDischargeDepth := 20) [resP, packed, aload, partOf, frzVs, frzV, frzL, frz_nil, frz, LEx.row_mk, xNam, hpl, emp_eE, *]; (repeat (first | exact AS.Ext.refl _ | assumption | refine AS.Ext.bump ?_ | refine AS.Ext.kill (by first | omega | (simp; omega) | simp) ?_ | refine AS.Ext.setBox (by first | omega | (simp; omega)) ?_)); done) | fail)
    | (have hpl := plc_none s a (fun j hj => hnj j (by omega)); refine Kx.mk ?_; refine owes_fz (H1 := H) [_] (l := [.cell 4 121]) (.inr rfl) hwf (Nat.le_refl _) rfl ?_ ?_ ⟨rfl, rfl⟩ <;> first | (exact below_agg1 (LEx.row_below _ _ _)) | (simp (maxDischargeDepth := 20) [resP, packed, aload, partOf, frzVs, frzV, frzL, frz_nil, frz, LEx.row_mk, xNam, hpl, emp_eE, *]; (repeat (first | exact AS.Ext.refl _ | assumption | refine AS.Ext.bump ?_ | refine AS.Ext.kill (by first | omega | (simp; omega) | simp) ?_ | refine AS.Ext.setBox (by first | omega | (simp; omega)) ?_)); done) | fail)
    | fail
set_option maxHeartbeats 4000000
theorem yCoil (H : AS) (c : Nat) (e : LEl) (rg : ByteArray) (a : Int) (hc : c = H.color) (hn : e.name.size ≤ 262145) : ACalls Tryz.prog 64 [.agg (e.row c), ps rg, pi a] H fun q H' => q = .agg ((coilS a rg e).row H.color) ∧ H' = H := by
  subst hc
  rw [LEl.row_eq]
  refine ACalls_intro Tryz.func64 rfl (by kernel_rfl) (by simp) fun hwf hbel => ?_
  have e2 : ¬ H.next = H.next + 1 + 1 := by omega
  have f2 : ¬ H.next + 1 + 1 = H.next := by omega
  have e3 : ¬ H.next = H.next + 1 + 1 + 1 := by omega
  have f3 : ¬ H.next + 1 + 1 + 1 = H.next := by omega
  have e4 : ¬ H.next = H.next + 1 + 1 + 1 + 1 := by omega
  have f4 : ¬ H.next + 1 + 1 + 1 + 1 = H.next := by omega
  have e5 : ¬ H.next = H.next + 1 + 1 + 1 + 1 + 1 := by omega
  have f5 : ¬ H.next + 1 + 1 + 1 + 1 + 1 = H.next := by omega
  have e6 : ¬ H.next = H.next + 1 + 1 + 1 + 1 + 1 + 1 := by omega
  have f6 : ¬ H.next + 1 + 1 + 1 + 1 + 1 + 1 = H.next := by omega
  repeat' first
    | refine T_seq ?_
    | refine T_rgn ?_
    | refine T_cd ?_
    | refine T_sk ?_
    | refine T_rt ?_
    | refine T_block ?_
    | refine T_ex ?_
    | refine Kt_then ?_
    | refine Kt_block ?_
    | refine Kr_then ?_
    | refine Kr_block ?_
    | refine Ke_here ?_
    | refine Ke_then ?_
    | refine Hid.mk ?_
    | refine T_dr (id := 4) (fun j => j = H.next ∨ j = H.next + 1 + 1 ∨ j = H.next + 1 + 1 + 1) [7] (.free 0 (.free 1 (.free 2 (.free 3 (.free 5 (.sole 4 (.sole 6 (.sole 7 .done)))))))) mix ?_
    | refine T_dr (id := 7) (fun j => j = H.next ∨ j = H.next + 1 + 1 ∨ j = H.next + 1 + 1 + 1) [13] (.free 0 (.free 1 (.free 3 (.free 4 (.free 5 (.free 6 (.free 7 (.free 9 (.two 2 8 (.sole 8 (.sole 10 (.sole 11 (.free 12 (.sole 13 .done))))) (.two 2 10 (.sole 10 (.sole 11 (.free 12 (.sole 13 .done)))) (.two 2 11 (.sole 11 (.free 12 (.sole 13 .done))) (.sole 2 (.free 12 (.sole 13 .done)))))))))))))) mix ?_
    | refine And.intro (fun _ h1 h2 => absurd h2 h1) ?_
    | (refine eitherK.raw ?_; simp (maxSteps := 1000000) (disch := first | omega | assumption | (simp; done) | fail) [*, box_sb, LEx.len, LEx.take14, LEx.drop14, LSt.len, LSt.take14, wk_two, aStep_eq])
    | refine And.intro ?_ ?_
    | (refine callR (yPlace _ _ _ hn) ?_; rintro _ Hz ⟨rfl, hz⟩; subst Hz)
    | (refine callR (yNamed _ _ _) ?_; rintro _ Hz ⟨rfl, hz⟩; subst Hz)
    | (refine callR (yTruth_ _ _ _) ?_; rintro _ Hz ⟨rfl, hz⟩; subst Hz)
    | (refine callR (yNot_ _ H.color (xNam rg a) e.pos (by simp)) ?_; rintro _ Hz ⟨rfl, hz⟩; subst Hz)
    | (refine callR (ySet_ _ a H.color (xPlc e.name e.pos) (xNam rg a) (by simp)) ?_; rintro _ Hz ⟨rfl, hz⟩; subst Hz)
    | (refine callR (ySet_ _ a H.color (xPlc e.name e.pos) (yNot (xNam rg a) e.pos) (by simp)) ?_; rintro _ Hz ⟨rfl, hz⟩; subst Hz)
    | (refine callR (ySet_ _ a H.color (xPlc e.name e.pos) (xTru true a) (by simp)) ?_; rintro _ Hz ⟨rfl, hz⟩; subst Hz)
    | (refine callR (ySet_ _ a H.color (xPlc e.name e.pos) (xTru false a) (by simp)) ?_; rintro _ Hz ⟨rfl, hz⟩; subst Hz)
    | refine Gs.mk (fun g => ?_) (fun g => ?_) <;> (try simp only [nm] at g) <;> try (exfalso; first | contradiction | omega)
    | refine Gr.mk (fun g => ?_) (fun g => ?_) <;> (try simp only [nm] at g) <;> try (exfalso; first | contradiction | omega)
    | (refine Run.of ?_; simp (maxSteps := 1000000) (disch := first | omega | assumption | (simp; done) | fail) [*, box_sb, LEx.len, LEx.take14, LEx.drop14, LSt.len, LSt.take14, wk_two, aStep_eq])
  all_goals (refine Kx.mk ?_; refine owes_fz (H1 := H) [_] (l := [.cell 6 51]) (.inr rfl) hwf (Nat.le_refl _) rfl ?_ ?_ ⟨rfl, rfl⟩)
  all_goals first
    | exact below_agg1 (LSt.row_below _ _ _)
    | (simp (maxDischargeDepth := 20) [resP, packed, aload, partOf, frzVs, frzV, frzL, frz_nil, frz_msl, frz, LEx.row_mk, LSt.row_mk, xNam, sSet, sIf, coilS, yNot, frzLs, LSt.len, LSt.take14, *]; (repeat (first | exact AS.Ext.refl _ | assumption | refine AS.Ext.bump ?_ | refine AS.Ext.kill (by first | omega | (simp; omega) | simp) ?_ | refine AS.Ext.setBox (by first | omega | (simp; omega)) ?_)); done)
    | (simp (maxDischargeDepth := 20) [resP, packed, aload, partOf, frzVs, frzV, frzLs, LSt.len, LSt.take14, coilS, yNot, *]; (repeat (first | exact AS.Ext.refl _ | assumption | refine AS.Ext.bump ?_ | refine AS.Ext.kill (by first | omega | (simp; omega) | simp) ?_ | refine AS.Ext.setBox (by first | omega | (simp; omega)) ?_)); done)
    | fail
set_option maxHeartbeats 4000000
theorem LEl.r1 (c : Nat) (e : LEl) : (e.row c)[1]? = some (pi e.pos) := by rw [LEl.row_eq]; rfl
theorem LEl.r2 (c : Nat) (e : LEl) : (e.row c)[2]? = some (ps e.name) := by rw [LEl.row_eq]; rfl
theorem sizeL_nth' {l : List LEl} {i : Nat} (h : i < l.length) : LEl.sizeL (l.drop i) = LEl.size (nth l (i : Int)) + LEl.sizeL (l.drop (i + 1)) := by rw [drop_nth h]; simp [LEl.sizeL]
theorem sizeL_z {l : List LEl} (h : 0 < l.length) : LEl.sizeL (l.drop 0) = LEl.size (nth l 0) + LEl.sizeL (l.drop (0 + 1)) := sizeL_nth' (i := 0) h
theorem sizeB_nth' {l : List (List LEl)} {i : Nat} (h : i < l.length) : LEl.sizeB (l.drop i) = LEl.sizeL (nth l (i : Int)) + LEl.sizeB (l.drop (i + 1)) + 1 := by rw [drop_nth h]; simp [LEl.sizeB]
theorem sizeB_z {l : List (List LEl)} (h : 0 < l.length) : LEl.sizeB (l.drop 0) = LEl.sizeL (nth l 0) + LEl.sizeB (l.drop (0 + 1)) + 1 := sizeB_nth' (i := 0) h
def ConD (l : List LEl) : Prop := LEl.nmL l → ∀ (H : AS) (c : Nat) (a : Int) (n : Nat), c = H.color → n + LEl.sizeL l ≤ 536870912 → ACalls Tryz.prog 60 [PV.sl c 4 (l.map (LEl.row c)), pi ((n : Int) + 1), pi a] H fun q H' => q = .tuple [.agg ((LEl.conL a n l).1.row H.color), pi (((LEl.conL a n l).2 : Int) + 1)] ∧ H' = H
def BesD (e : LEl) : Prop := LEl.nmB e.br → ∀ (H : AS) (c : Nat) (a : Int) (n : Nat), c = H.color → n + LEl.sizeB e.br ≤ 536870912 → ACalls Tryz.prog 96 [.agg (e.row c), pi ((n : Int) + 1), pi a] H fun q H' => q = .tuple [.agg ((LEl.besB a n e.br).1.row H.color), pi (((LEl.besB a n e.br).2 : Int) + 1)] ∧ H' = H
/-- What the fold so far has come to: nothing yet, or an expression. -/
def FoS (Z : List PV) (c i n m : Nat) (R : List PV) (G : LEx → Prop) : Prop := (i < 1 ∧ m ≤ n ∧ n ≤ m ∧ R = Z) ∨ (0 < i ∧ ∃ y : LEx, R = y.row c ∧ G y)
theorem con_eq (a : Int) (n : Nat) (e : LEl) : LEl.con a n e = if e.op = 2 then (xNot (xPlc e.name e.pos), n) else if e.op = 3 ∨ e.op = 4 then (xNam (hE (n + 1)) e.pos, n + 1) else if e.op = 5 then LEl.besB a n e.br else (xPlc e.name e.pos, n) := by cases e; rw [LEl.con]; rfl
theorem plc_at (s : ByteArray) (a : Int) : (xPlc s a).at' = a := by unfold xPlc; split <;> rfl
theorem yNot_plc (s : ByteArray) (a : Int) : yNot (xPlc s a) a = xNot (xPlc s a) := by unfold yNot xNot; rw [plc_at]
theorem foldA {l : List LEl} {a : Int} {n : Nat} (h : 0 < l.length) : LEl.conF a (LEl.con a n (nth l 0)).1 (LEl.con a n (nth l 0)).2 (l.drop (0 + 1)) = LEl.conL a n l := by
  have e := drop_nth (i := 0) h
  rw [List.drop_zero] at e
  conv => rhs; rw [e, LEl.conL]
  rfl
theorem mem_nz {α : Type} [Inhabited α] {l : List α} (h : 0 < l.length) : nth l 0 ∈ l := mem_nth (i := 0) h
theorem nm_nz {l : List LEl} (hn : LEl.nmL l) (h : 0 < l.length) : (nth l 0).name.size ≤ 262145 ∧ LEl.nmB (nth l 0).br := nm_nth (i := 0) hn h
theorem foldB {l : List LEl} {a : Int} {m i : Nat} {y : LEx} {R : LEx × Nat} (h : i < l.length) (hf : LEl.conF a y m (l.drop i) = R) : LEl.conF a (xTwo 6 a y (LEl.con a m (nth l (i : Int))).1) (LEl.con a m (nth l (i : Int))).2 (l.drop (i + 1)) = R := by
  rw [drop_nth h, conF_cons] at hf; exact hf
theorem fold2A {l : List (List LEl)} {a : Int} {n : Nat} (h : 0 < l.length) : LEl.besF a (LEl.conL a n (nth l 0)).1 (LEl.conL a n (nth l 0)).2 (l.drop (0 + 1)) = LEl.besB a n l := by
  have e := drop_nth (i := 0) h
  rw [List.drop_zero] at e
  conv => rhs; rw [e, LEl.besB]
  rfl
theorem fold2B {l : List (List LEl)} {a : Int} {m i : Nat} {y : LEx} {R : LEx × Nat} (h : i < l.length) (hf : LEl.besF a y m (l.drop i) = R) : LEl.besF a (xTwo 7 a y (LEl.conL a m (nth l (i : Int))).1) (LEl.conL a m (nth l (i : Int))).2 (l.drop (i + 1)) = R := by
  rw [drop_nth h, besF_cons] at hf; exact hf
theorem below2 {n : Nat} {cs : List PV} {v : Value} (h : ∀ p ∈ cs, Below n p) : ∀ p ∈ [PV.agg cs, .val v], Below n p := by
  intro p hp
  simp only [List.mem_cons, List.not_mem_nil, or_false] at hp
  rcases hp with rfl | rfl
  · exact .agg h
  · exact .val _
theorem yHiddenE (H : AS) (n : Nat) (hn : n < 1073741820) : ACalls Tryz.prog 40 [ps ⟨#[69]⟩, pi ((n : Int) + 1)] H fun q H' => q = ps (hE (n + 1)) ∧ H' = H := by
  rw [show ((n : Int) + 1) = ((n + 1 : Nat) : Int) by omega]; exact yHidden H 69 (n + 1) (by omega)
theorem cond_of (l : List LEl) (ih : ∀ e ∈ l, BesD e) : ConD l := by
  intro hnm H c a n hc hn
  subst hc
  refine ACalls_intro Tryz.func60 rfl (by kernel_rfl) (by simp) fun hwf hbel => ?_
  have hll := LEl.length_le_size l
  repeat' first
    | refine T_seq ?_
    | refine T_rgn ?_
    | refine T_cd ?_
    | refine T_sk ?_
    | refine T_rt ?_
    | refine T_block ?_
    | refine T_ex ?_
    | refine Kt_then ?_
    | refine Kt_block ?_
    | refine Kr_then ?_
    | refine Kr_block ?_
    | refine Ke_here ?_
    | refine Ke_then ?_
    | refine Hid.mk ?_
    | refine Gs.mk (fun g => ?_) (fun g => ?_) <;> (try simp only [nm] at g) <;> try (exfalso; first | contradiction | omega)
    | refine Gr.mk (fun g => ?_) (fun g => ?_) <;> (try simp only [nm] at g) <;> try (exfalso; first | contradiction | omega)
    | (refine Run.of ?_; simp (maxSteps := 1000000) (disch := first | omega | assumption | (simp; done) | fail) [*, box_sb, LEx.len, LEx.take14, LEx.drop14, LEl.len, LEl.take4, LEl.drop4, LEl.r0, LEl.r1, LEl.r2, LEl.r3, lenNilS, idx60, idx70, LEl.bRow, wrap_nn, wrap_i64, wk_two, aStep_eq, yNot_plc])
  refine T_lp (fun k F H' => ∃ (i m : Nat) (R : List PV), k = l.length - i ∧ F 0 = PV.sl H.color 4 (l.map (LEl.row H.color)) ∧ F 1 = pi ((m : Int) + 1) ∧ F 2 = pi a ∧ F 6 = .ptr H.next 1 0 0 ∧ F 8 = .ptr (H.next + 1) 1 0 0 ∧ F 12 = PV.sl H.color 4 (l.map (LEl.row H.color)) ∧ F 13 = pi l.length ∧ F 14 = pi i ∧ i ≤ l.length ∧ H'.box H.next = some [[pi 0, pi 0, ps ⟨#[]⟩, ps ⟨#[]⟩, k8 0, k64 0, ps ⟨#[]⟩, .nil, .nil, k8 0, pi 0, pi 0, pi 0, pi 0]] ∧ H'.box (H.next + 1) = some [R] ∧ FoS [pi 0, pi 0, ps ⟨#[]⟩, ps ⟨#[]⟩, k8 0, k64 0, ps ⟨#[]⟩, .nil, .nil, k8 0, pi 0, pi 0, pi 0, pi 0] H.color i n m R (fun y => LEl.conF a y m (l.drop i) = LEl.conL a n l) ∧ m + LEl.sizeL (l.drop i) ≤ n + LEl.sizeL l ∧ H.Ext H' ∧ H.next + 1 < H'.next) _ ⟨0, n, [pi 0, pi 0, ps ⟨#[]⟩, ps ⟨#[]⟩, k8 0, k64 0, ps ⟨#[]⟩, .nil, .nil, k8 0, pi 0, pi 0, pi 0, pi 0], rfl, ?_⟩ ?_
  · (repeat' apply And.intro) <;> first | (exact Nat.zero_le _) | (simp [*]; done) | (exact .inl ⟨by omega, by omega, by omega, rfl⟩) | (exact Nat.le_refl _) | ((repeat (first | exact AS.Ext.refl _ | assumption | refine AS.Ext.bump ?_ | refine AS.Ext.kill (by first | omega | (simp; omega) | simp) ?_ | refine AS.Ext.setBox (by first | omega | (simp; omega)) ?_)); done) | (simp; omega) | fail
  rintro k F H1 ⟨i, m, R, rfl, g0, g1, g2, g6, g8, g12, g13, g14, hi, b0, b1, hfs, hms, hext, hl1⟩
  have hc1 : H1.color = H.color := hext.color
  have f0 : ¬ H.next = H1.next := by omega
  have f1 : ¬ H.next = H1.next + 1 := by omega
  have f2 : ¬ H.next + 1 = H1.next := by omega
  have f3 : ¬ H.next + 1 = H1.next + 1 := by omega
  rcases hfs with ⟨hi1, hm1, hm2, rfl⟩ | ⟨hpos, y, rfl, hfd⟩
  · obtain rfl : i = 0 := by omega
    obtain rfl : n = m := by omega
    repeat' first
      | refine T_seq ?_
      | refine T_rgn ?_
      | refine T_cd ?_
      | refine T_sk ?_
      | refine T_rt ?_
      | refine T_block ?_
      | refine T_ex ?_
      | refine Kt_then ?_
      | refine Kt_block ?_
      | refine Kr_then ?_
      | refine Kr_block ?_
      | refine Kr_loop ?_
      | refine Ke_here ?_
      | refine Ke_then ?_
      | refine Ke_loop ?_
      | refine Ke_block ?_
      | refine Hid.mk ?_
      | refine T_dr (id := 9) (fun j => j = H1.next) [8] (.free 0 (.free 1 (.free 2 (.free 3 (.free 5 (.free 6 (.sole 4 (.sole 7 (.sole 8 .done))))))))) mix ?_
      | refine T_dr (id := 12) (fun j => j = H1.next) [5] (.free 0 (.free 2 (.free 3 (.sole 1 (.sole 4 (.sole 5 .done)))))) mix ?_
      | refine And.intro (fun _ h1 h2 => absurd h2 h1) ?_
      | refine And.intro ?_ ?_
      | (refine callR (yPlace _ _ _ (nm_nz hnm (by assumption)).1) ?_; rintro _ Hz ⟨rfl, hz⟩; subst Hz)
      | (refine callR (yNot_ _ H.color (xPlc (nth l 0).name (nth l 0).pos) (nth l 0).pos (by simp [*])) ?_; rintro _ Hz ⟨rfl, hz⟩; subst Hz)
      | (refine callR (yHiddenE _ n (by omega)) ?_; rintro _ Hz ⟨rfl, hz⟩; subst Hz)
      | (refine callR (yNamed _ _ _) ?_; rintro _ Hz ⟨rfl, hz⟩; subst Hz)
      | (refine callR (yTruth_ _ _ _) ?_; rintro _ Hz ⟨rfl, hz⟩; subst Hz)
      | (refine callR (ih (nth l 0) (mem_nz (by assumption)) (nm_nz hnm (by assumption)).2 _ H.color a n (by simp [*]) (by have := (sizeL_z (l := l) (by assumption)); simp only [LEl.size_eq] at this; omega)) ?_; rintro _ Hz ⟨rfl, hz⟩; subst Hz)
      | refine Gs.mk (fun g => ?_) (fun g => ?_) <;> (try simp only [nm] at g) <;> try (exfalso; first | contradiction | omega)
      | refine Gr.mk (fun g => ?_) (fun g => ?_) <;> (try simp only [nm] at g) <;> try (exfalso; first | contradiction | omega)
      | (refine Run.of ?_; simp (maxSteps := 1000000) (disch := first | omega | assumption | (simp; done) | fail) [*, box_sb, LEx.len, LEx.take14, LEx.drop14, LEl.len, LEl.take4, LEl.drop4, LEl.r0, LEl.r1, LEl.r2, LEl.r3, lenNilS, idx60, idx70, LEl.bRow, wrap_nn, wrap_i64, wk_two, aStep_eq, yNot_plc])
    all_goals first
      | (have hcn : LEl.con a n (nth l 0) = ((xNot (xPlc (nth l 0).name (nth l 0).pos)), n) := (by rw [con_eq]; simp [*]); have hle := con_le a n (nth l 0); rw [hcn] at hle; have hsn := (sizeL_z (l := l) (by assumption)); have hf := foldA (l := l) (a := a) (n := n) (by assumption); rw [hcn] at hf; refine Kt_loop ⟨_, ?_, 0 + 1, n, LEx.row H.color (xNot (xPlc (nth l 0).name (nth l 0).pos)), rfl, ?_⟩ <;> (repeat' apply And.intro) <;> first | omega | (simp [*]; done) | (exact .inr ⟨by omega, _, rfl, hf⟩) | ((repeat (first | exact AS.Ext.refl _ | assumption | refine AS.Ext.bump ?_ | refine AS.Ext.kill (by first | omega | (simp; omega) | simp) ?_ | refine AS.Ext.setBox (by first | omega | (simp; omega)) ?_)); done) | (simp; omega) | fail)
      | (have hcn : LEl.con a n (nth l 0) = ((xNam (hE (n + 1)) (nth l 0).pos), (n + 1)) := (by rw [con_eq]; simp [*]); have hle := con_le a n (nth l 0); rw [hcn] at hle; have hsn := (sizeL_z (l := l) (by assumption)); have hf := foldA (l := l) (a := a) (n := n) (by assumption); rw [hcn] at hf; refine Kt_loop ⟨_, ?_, 0 + 1, (n + 1), LEx.row H.color (xNam (hE (n + 1)) (nth l 0).pos), rfl, ?_⟩ <;> (repeat' apply And.intro) <;> first | omega | (simp [*]; done) | (exact .inr ⟨by omega, _, rfl, hf⟩) | ((repeat (first | exact AS.Ext.refl _ | assumption | refine AS.Ext.bump ?_ | refine AS.Ext.kill (by first | omega | (simp; omega) | simp) ?_ | refine AS.Ext.setBox (by first | omega | (simp; omega)) ?_)); done) | (simp; omega) | fail)
      | (have hcn : LEl.con a n (nth l 0) = ((LEl.besB a n (nth l 0).br).1, (LEl.besB a n (nth l 0).br).2) := (by rw [con_eq]; simp [*]); have hle := con_le a n (nth l 0); rw [hcn] at hle; have hsn := (sizeL_z (l := l) (by assumption)); have hf := foldA (l := l) (a := a) (n := n) (by assumption); rw [hcn] at hf; refine Kt_loop ⟨_, ?_, 0 + 1, (LEl.besB a n (nth l 0).br).2, LEx.row H.color (LEl.besB a n (nth l 0).br).1, rfl, ?_⟩ <;> (repeat' apply And.intro) <;> first | omega | (simp [*]; done) | (exact .inr ⟨by omega, _, rfl, hf⟩) | ((repeat (first | exact AS.Ext.refl _ | assumption | refine AS.Ext.bump ?_ | refine AS.Ext.kill (by first | omega | (simp; omega) | simp) ?_ | refine AS.Ext.setBox (by first | omega | (simp; omega)) ?_)); done) | (simp; omega) | fail)
      | (have hcn : LEl.con a n (nth l 0) = ((xPlc (nth l 0).name (nth l 0).pos), n) := (by rw [con_eq]; simp [*]); have hle := con_le a n (nth l 0); rw [hcn] at hle; have hsn := (sizeL_z (l := l) (by assumption)); have hf := foldA (l := l) (a := a) (n := n) (by assumption); rw [hcn] at hf; refine Kt_loop ⟨_, ?_, 0 + 1, n, LEx.row H.color (xPlc (nth l 0).name (nth l 0).pos), rfl, ?_⟩ <;> (repeat' apply And.intro) <;> first | omega | (simp [*]; done) | (exact .inr ⟨by omega, _, rfl, hf⟩) | ((repeat (first | exact AS.Ext.refl _ | assumption | refine AS.Ext.bump ?_ | refine AS.Ext.kill (by first | omega | (simp; omega) | simp) ?_ | refine AS.Ext.setBox (by first | omega | (simp; omega)) ?_)); done) | (simp; omega) | fail)
      | (have hl0 : l = [] := (by first | assumption | exact List.length_eq_zero_iff.1 (by omega)); have hq1 : (LEl.conL a n l).1 = xTru true a := (by rw [hl0, LEl.conL]); have hq2 : (LEl.conL a n l).2 = n := (by rw [hl0, LEl.conL]); have hq3 : (LEl.conL a n []).1 = xTru true a := (by rw [LEl.conL]); have hq4 : (LEl.conL a n []).2 = n := (by rw [LEl.conL]); refine Kx.mk ?_; refine owes_fz (H1 := H) [_, _] (l := [.cell 6 121, .tmp 7]) (.inr rfl) hwf (Nat.le_refl _) rfl ?_ ?_ ⟨rfl, rfl⟩ <;> first | (exact below2 (LEx.row_below _ _ _)) | (simp (maxDischargeDepth := 20) [resP, packed, aload, partOf, frzVs, frzV, frzLx, frzL, frz_nil, frz, LEx.len, LEx.take14, *]; (repeat (first | exact AS.Ext.refl _ | assumption | refine AS.Ext.bump ?_ | refine AS.Ext.kill (by first | omega | (simp; omega) | simp) ?_ | refine AS.Ext.setBox (by first | omega | (simp; omega)) ?_)); done) | fail)
      | (exfalso; have hl1 : l.length = 0 := (by rw [show l = [] by assumption]; rfl); omega)
      | (exfalso; have hl1 : l = [] := List.length_eq_zero_iff.1 (by omega); contradiction)
      | fail
  · repeat' first
      | refine T_seq ?_
      | refine T_rgn ?_
      | refine T_cd ?_
      | refine T_sk ?_
      | refine T_rt ?_
      | refine T_block ?_
      | refine T_ex ?_
      | refine Kt_then ?_
      | refine Kt_block ?_
      | refine Kr_then ?_
      | refine Kr_block ?_
      | refine Kr_loop ?_
      | refine Ke_here ?_
      | refine Ke_then ?_
      | refine Ke_loop ?_
      | refine Ke_block ?_
      | refine Hid.mk ?_
      | refine T_dr (id := 9) (fun j => j = H1.next) [8] (.free 0 (.free 1 (.free 2 (.free 3 (.free 5 (.free 6 (.sole 4 (.sole 7 (.sole 8 .done))))))))) mix ?_
      | refine T_dr (id := 12) (fun j => j = H1.next) [5] (.free 0 (.free 2 (.free 3 (.sole 1 (.sole 4 (.sole 5 .done)))))) mix ?_
      | refine And.intro (fun _ h1 h2 => absurd h2 h1) ?_
      | refine And.intro ?_ ?_
      | (refine callR (yPlace _ _ _ (nm_nth hnm (by assumption)).1) ?_; rintro _ Hz ⟨rfl, hz⟩; subst Hz)
      | (refine callR (yNot_ _ H.color (xPlc (nth l (i : Int)).name (nth l (i : Int)).pos) (nth l (i : Int)).pos (by simp [*])) ?_; rintro _ Hz ⟨rfl, hz⟩; subst Hz)
      | (refine callR (yHiddenE _ m (by omega)) ?_; rintro _ Hz ⟨rfl, hz⟩; subst Hz)
      | (refine callR (yNamed _ _ _) ?_; rintro _ Hz ⟨rfl, hz⟩; subst Hz)
      | (refine callR (yTruth_ _ _ _) ?_; rintro _ Hz ⟨rfl, hz⟩; subst Hz)
      | (refine callR (ih (nth l (i : Int)) (mem_nth (by assumption)) (nm_nth hnm (by assumption)).2 _ H.color a m (by simp [*]) (by have := (sizeL_nth' (l := l) (i := i) (by assumption)); simp only [LEl.size_eq] at this; omega)) ?_; rintro _ Hz ⟨rfl, hz⟩; subst Hz)
      | (refine callR (yTwo_ _ 6 a H.color y (xNot (xPlc (nth l (i : Int)).name (nth l (i : Int)).pos)) (by simp [*])) ?_; rintro _ Hz ⟨rfl, hz⟩; subst Hz)
      | (refine callR (yTwo_ _ 6 a H.color y (xNam (hE (m + 1)) (nth l (i : Int)).pos) (by simp [*])) ?_; rintro _ Hz ⟨rfl, hz⟩; subst Hz)
      | (refine callR (yTwo_ _ 6 a H.color y (LEl.besB a m (nth l (i : Int)).br).1 (by simp [*])) ?_; rintro _ Hz ⟨rfl, hz⟩; subst Hz)
      | (refine callR (yTwo_ _ 6 a H.color y (xPlc (nth l (i : Int)).name (nth l (i : Int)).pos) (by simp [*])) ?_; rintro _ Hz ⟨rfl, hz⟩; subst Hz)
      | refine Gs.mk (fun g => ?_) (fun g => ?_) <;> (try simp only [nm] at g) <;> try (exfalso; first | contradiction | omega)
      | refine Gr.mk (fun g => ?_) (fun g => ?_) <;> (try simp only [nm] at g) <;> try (exfalso; first | contradiction | omega)
      | (refine Run.of ?_; simp (maxSteps := 1000000) (disch := first | omega | assumption | (simp; done) | fail) [*, box_sb, LEx.len, LEx.take14, LEx.drop14, LEl.len, LEl.take4, LEl.drop4, LEl.r0, LEl.r1, LEl.r2, LEl.r3, lenNilS, idx60, idx70, LEl.bRow, wrap_nn, wrap_i64, wk_two, aStep_eq, yNot_plc])
    all_goals first
      | (have hcn : LEl.con a m (nth l (i : Int)) = ((xNot (xPlc (nth l (i : Int)).name (nth l (i : Int)).pos)), m) := (by rw [con_eq]; simp [*]); have hle := con_le a m (nth l (i : Int)); rw [hcn] at hle; have hsn := (sizeL_nth' (l := l) (i := i) (by assumption)); have hf := foldB (l := l) (by assumption) hfd; rw [hcn] at hf; refine Kt_loop ⟨_, ?_, i + 1, m, LEx.row H.color (xTwo 6 a y (xNot (xPlc (nth l (i : Int)).name (nth l (i : Int)).pos))), rfl, ?_⟩ <;> (repeat' apply And.intro) <;> first | omega | (simp [*]; done) | (exact .inr ⟨by omega, _, rfl, hf⟩) | ((repeat (first | exact AS.Ext.refl _ | assumption | refine AS.Ext.bump ?_ | refine AS.Ext.kill (by first | omega | (simp; omega) | simp) ?_ | refine AS.Ext.setBox (by first | omega | (simp; omega)) ?_)); done) | (simp; omega) | fail)
      | (have hcn : LEl.con a m (nth l (i : Int)) = ((xNam (hE (m + 1)) (nth l (i : Int)).pos), (m + 1)) := (by rw [con_eq]; simp [*]); have hle := con_le a m (nth l (i : Int)); rw [hcn] at hle; have hsn := (sizeL_nth' (l := l) (i := i) (by assumption)); have hf := foldB (l := l) (by assumption) hfd; rw [hcn] at hf; refine Kt_loop ⟨_, ?_, i + 1, (m + 1), LEx.row H.color (xTwo 6 a y (xNam (hE (m + 1)) (nth l (i : Int)).pos)), rfl, ?_⟩ <;> (repeat' apply And.intro) <;> first | omega | (simp [*]; done) | (exact .inr ⟨by omega, _, rfl, hf⟩) | ((repeat (first | exact AS.Ext.refl _ | assumption | refine AS.Ext.bump ?_ | refine AS.Ext.kill (by first | omega | (simp; omega) | simp) ?_ | refine AS.Ext.setBox (by first | omega | (simp; omega)) ?_)); done) | (simp; omega) | fail)
      | (have hcn : LEl.con a m (nth l (i : Int)) = ((LEl.besB a m (nth l (i : Int)).br).1, (LEl.besB a m (nth l (i : Int)).br).2) := (by rw [con_eq]; simp [*]); have hle := con_le a m (nth l (i : Int)); rw [hcn] at hle; have hsn := (sizeL_nth' (l := l) (i := i) (by assumption)); have hf := foldB (l := l) (by assumption) hfd; rw [hcn] at hf; refine Kt_loop ⟨_, ?_, i + 1, (LEl.besB a m (nth l (i : Int)).br).2, LEx.row H.color (xTwo 6 a y (LEl.besB a m (nth l (i : Int)).br).1), rfl, ?_⟩ <;> (repeat' apply And.intro) <;> first | omega | (simp [*]; done) | (exact .inr ⟨by omega, _, rfl, hf⟩) | ((repeat (first | exact AS.Ext.refl _ | assumption | refine AS.Ext.bump ?_ | refine AS.Ext.kill (by first | omega | (simp; omega) | simp) ?_ | refine AS.Ext.setBox (by first | omega | (simp; omega)) ?_)); done) | (simp; omega) | fail)
      | (have hcn : LEl.con a m (nth l (i : Int)) = ((xPlc (nth l (i : Int)).name (nth l (i : Int)).pos), m) := (by rw [con_eq]; simp [*]); have hle := con_le a m (nth l (i : Int)); rw [hcn] at hle; have hsn := (sizeL_nth' (l := l) (i := i) (by assumption)); have hf := foldB (l := l) (by assumption) hfd; rw [hcn] at hf; refine Kt_loop ⟨_, ?_, i + 1, m, LEx.row H.color (xTwo 6 a y (xPlc (nth l (i : Int)).name (nth l (i : Int)).pos)), rfl, ?_⟩ <;> (repeat' apply And.intro) <;> first | omega | (simp [*]; done) | (exact .inr ⟨by omega, _, rfl, hf⟩) | ((repeat (first | exact AS.Ext.refl _ | assumption | refine AS.Ext.bump ?_ | refine AS.Ext.kill (by first | omega | (simp; omega) | simp) ?_ | refine AS.Ext.setBox (by first | omega | (simp; omega)) ?_)); done) | (simp; omega) | fail)
      | (have hii : i = l.length := (by omega); rw [hii, List.drop_length, LEl.conF] at hfd; have hq1 : (LEl.conL a n l).1 = y := (by rw [← hfd]); have hq2 : (LEl.conL a n l).2 = m := (by rw [← hfd]); clear hfd; refine Kx.mk ?_; refine owes_fz (H1 := H) [_, _] (l := [.cell 6 121, .tmp 7]) (.inr rfl) hwf (Nat.le_refl _) rfl ?_ ?_ ⟨rfl, rfl⟩ <;> first | (exact below2 (LEx.row_below _ _ _)) | (simp (maxDischargeDepth := 20) [resP, packed, aload, partOf, frzVs, frzV, frzLx, frzL, frz_nil, frz, LEx.len, LEx.take14, *]; (repeat (first | exact AS.Ext.refl _ | assumption | refine AS.Ext.bump ?_ | refine AS.Ext.kill (by first | omega | (simp; omega) | simp) ?_ | refine AS.Ext.setBox (by first | omega | (simp; omega)) ?_)); done) | fail)
      | (exfalso; have hl1 : l.length = 0 := (by rw [show l = [] by assumption]; rfl); omega)
      | (exfalso; have hl1 : l = [] := List.length_eq_zero_iff.1 (by omega); contradiction)
      | fail
theorem besd_of (e : LEl) (ih : ∀ l ∈ e.br, ConD l) : BesD e := by
  intro hnm H c a n hc hn
  subst hc
  refine ACalls_intro Tryz.func96 rfl (by kernel_rfl) (by simp) fun hwf hbel => ?_
  have hll := LEl.lengthB_le e.br
  repeat' first
    | refine T_seq ?_
    | refine T_rgn ?_
    | refine T_cd ?_
    | refine T_sk ?_
    | refine T_rt ?_
    | refine T_block ?_
    | refine T_ex ?_
    | refine Kt_then ?_
    | refine Kt_block ?_
    | refine Kr_then ?_
    | refine Kr_block ?_
    | refine Ke_here ?_
    | refine Ke_then ?_
    | refine Hid.mk ?_
    | refine Gs.mk (fun g => ?_) (fun g => ?_) <;> (try simp only [nm] at g) <;> try (exfalso; first | contradiction | omega)
    | refine Gr.mk (fun g => ?_) (fun g => ?_) <;> (try simp only [nm] at g) <;> try (exfalso; first | contradiction | omega)
    | (refine Run.of ?_; simp (maxSteps := 1000000) (disch := first | omega | assumption | (simp; done) | fail) [*, box_sb, LEx.len, LEx.take14, LEx.drop14, LEl.len, LEl.take4, LEl.drop4, LEl.r0, LEl.r1, LEl.r2, LEl.r3, lenNilS, idx60, idx70, LEl.bRow, wrap_nn, wrap_i64, wk_two, aStep_eq, yNot_plc])
  refine T_lp (fun k F H' => ∃ (i m : Nat) (R : List PV), k = e.br.length - i ∧ F 1 = pi ((m : Int) + 1) ∧ F 2 = pi a ∧ F 3 = .ptr H.next 1 0 0 ∧ F 6 = .ptr (H.next + 1) 1 0 0 ∧ F 8 = .ptr (H.next + 1 + 1) 1 0 0 ∧ F 14 = PV.sl H.color 1 (e.br.map (LEl.bRow H.color)) ∧ F 15 = pi e.br.length ∧ F 16 = pi i ∧ i ≤ e.br.length ∧ H'.box H.next = some [e.row H.color] ∧ H'.box (H.next + 1) = some [[pi 0, pi 0, ps ⟨#[]⟩, ps ⟨#[]⟩, k8 0, k64 0, ps ⟨#[]⟩, .nil, .nil, k8 0, pi 0, pi 0, pi 0, pi 0]] ∧ H'.box (H.next + 1 + 1) = some [R] ∧ FoS [pi 0, pi 0, ps ⟨#[]⟩, ps ⟨#[]⟩, k8 0, k64 0, ps ⟨#[]⟩, .nil, .nil, k8 0, pi 0, pi 0, pi 0, pi 0] H.color i n m R (fun y => LEl.besF a y m (e.br.drop i) = LEl.besB a n e.br) ∧ m + LEl.sizeB (e.br.drop i) ≤ n + LEl.sizeB e.br ∧ H.Ext H' ∧ H.next + 1 + 1 < H'.next) _ ⟨0, n, [pi 0, pi 0, ps ⟨#[]⟩, ps ⟨#[]⟩, k8 0, k64 0, ps ⟨#[]⟩, .nil, .nil, k8 0, pi 0, pi 0, pi 0, pi 0], rfl, ?_⟩ ?_
  · (repeat' apply And.intro) <;> first | (exact Nat.zero_le _) | (simp [*]; done) | (exact .inl ⟨by omega, by omega, by omega, rfl⟩) | (exact Nat.le_refl _) | ((repeat (first | exact AS.Ext.refl _ | assumption | refine AS.Ext.bump ?_ | refine AS.Ext.kill (by first | omega | (simp; omega) | simp) ?_ | refine AS.Ext.setBox (by first | omega | (simp; omega)) ?_)); done) | (simp; omega) | fail
  rintro k F H1 ⟨i, m, R, rfl, g1, g2, g3, g6, g8, g14, g15, g16, hi, b0, b1, b2, hfs, hms, hext, hl1⟩
  have hc1 : H1.color = H.color := hext.color
  have f0 : ¬ H.next = H1.next := by omega
  have f1 : ¬ H.next = H1.next + 1 := by omega
  have f2 : ¬ H.next + 1 = H1.next := by omega
  have f3 : ¬ H.next + 1 = H1.next + 1 := by omega
  have f4 : ¬ H.next + 1 + 1 = H1.next := by omega
  have f5 : ¬ H.next + 1 + 1 = H1.next + 1 := by omega
  rcases hfs with ⟨hi1, hm1, hm2, rfl⟩ | ⟨hpos, y, rfl, hfd⟩
  · obtain rfl : i = 0 := by omega
    obtain rfl : n = m := by omega
    repeat' first
      | refine T_seq ?_
      | refine T_rgn ?_
      | refine T_cd ?_
      | refine T_sk ?_
      | refine T_rt ?_
      | refine T_block ?_
      | refine T_ex ?_
      | refine Kt_then ?_
      | refine Kt_block ?_
      | refine Kr_then ?_
      | refine Kr_block ?_
      | refine Kr_loop ?_
      | refine Ke_here ?_
      | refine Ke_then ?_
      | refine Ke_loop ?_
      | refine Ke_block ?_
      | refine Hid.mk ?_
      | refine And.intro (fun _ h1 h2 => absurd h2 h1) ?_
      | refine And.intro ?_ ?_
      | (refine callR (yTruth_ _ _ _) ?_; rintro _ Hz ⟨rfl, hz⟩; subst Hz)
      | (refine callR (ih (nth e.br 0) (mem_nz (by assumption)) (nmB_mem hnm (mem_nz (by assumption))) _ H.color a n (by simp [*]) (by have := (sizeB_z (l := e.br) (by assumption)); omega)) ?_; rintro _ Hz ⟨rfl, hz⟩; subst Hz)
      | refine Gs.mk (fun g => ?_) (fun g => ?_) <;> (try simp only [nm] at g) <;> try (exfalso; first | contradiction | omega)
      | refine Gr.mk (fun g => ?_) (fun g => ?_) <;> (try simp only [nm] at g) <;> try (exfalso; first | contradiction | omega)
      | (refine Run.of ?_; simp (maxSteps := 1000000) (disch := first | omega | assumption | (simp; done) | fail) [*, box_sb, LEx.len, LEx.take14, LEx.drop14, LEl.len, LEl.take4, LEl.drop4, LEl.r0, LEl.r1, LEl.r2, LEl.r3, lenNilS, idx60, idx70, LEl.bRow, wrap_nn, wrap_i64, wk_two, aStep_eq, yNot_plc])
    all_goals first
      | (have hle := conL_le a n (nth e.br 0); have hsn := (sizeB_z (l := e.br) (by assumption)); have hf := fold2A (l := e.br) (a := a) (n := n) (by assumption); refine Kt_loop ⟨_, ?_, 0 + 1, (LEl.conL a n (nth e.br 0)).2, LEx.row H.color (LEl.conL a n (nth e.br 0)).1, rfl, ?_⟩ <;> (repeat' apply And.intro) <;> first | omega | (simp [*]; done) | (exact .inr ⟨by omega, _, rfl, hf⟩) | ((repeat (first | exact AS.Ext.refl _ | assumption | refine AS.Ext.bump ?_ | refine AS.Ext.kill (by first | omega | (simp; omega) | simp) ?_ | refine AS.Ext.setBox (by first | omega | (simp; omega)) ?_)); done) | (simp; omega) | fail)
      | (have hl0 : e.br = [] := (by first | assumption | exact List.length_eq_zero_iff.1 (by omega)); have hq1 : (LEl.besB a n e.br).1 = xTru true a := (by rw [hl0, LEl.besB]); have hq2 : (LEl.besB a n e.br).2 = n := (by rw [hl0, LEl.besB]); have hq3 : (LEl.besB a n []).1 = xTru true a := (by rw [LEl.besB]); have hq4 : (LEl.besB a n []).2 = n := (by rw [LEl.besB]); refine Kx.mk ?_; refine owes_fz (H1 := H) [_, _] (l := [.cell 6 121, .tmp 7]) (.inr rfl) hwf (Nat.le_refl _) rfl ?_ ?_ ⟨rfl, rfl⟩ <;> first | (exact below2 (LEx.row_below _ _ _)) | (simp (maxDischargeDepth := 20) [resP, packed, aload, partOf, frzVs, frzV, frzLx, frzL, frz_nil, frz, LEx.len, LEx.take14, *]; (repeat (first | exact AS.Ext.refl _ | assumption | refine AS.Ext.bump ?_ | refine AS.Ext.kill (by first | omega | (simp; omega) | simp) ?_ | refine AS.Ext.setBox (by first | omega | (simp; omega)) ?_)); done) | fail)
      | (exfalso; have hl1 : e.br.length = 0 := (by rw [show e.br = [] by assumption]; rfl); omega)
      | (exfalso; have hl1 : e.br = [] := List.length_eq_zero_iff.1 (by omega); contradiction)
      | fail
  · repeat' first
      | refine T_seq ?_
      | refine T_rgn ?_
      | refine T_cd ?_
      | refine T_sk ?_
      | refine T_rt ?_
      | refine T_block ?_
      | refine T_ex ?_
      | refine Kt_then ?_
      | refine Kt_block ?_
      | refine Kr_then ?_
      | refine Kr_block ?_
      | refine Kr_loop ?_
      | refine Ke_here ?_
      | refine Ke_then ?_
      | refine Ke_loop ?_
      | refine Ke_block ?_
      | refine Hid.mk ?_
      | refine And.intro (fun _ h1 h2 => absurd h2 h1) ?_
      | refine And.intro ?_ ?_
      | (refine callR (yTruth_ _ _ _) ?_; rintro _ Hz ⟨rfl, hz⟩; subst Hz)
      | (refine callR (ih (nth e.br (i : Int)) (mem_nth (by assumption)) (nmB_mem hnm (mem_nth (by assumption))) _ H.color a m (by simp [*]) (by have := (sizeB_nth' (l := e.br) (i := i) (by assumption)); omega)) ?_; rintro _ Hz ⟨rfl, hz⟩; subst Hz)
      | (refine callR (yTwo_ _ 7 a H.color y (LEl.conL a m (nth e.br (i : Int))).1 (by simp [*])) ?_; rintro _ Hz ⟨rfl, hz⟩; subst Hz)
      | refine Gs.mk (fun g => ?_) (fun g => ?_) <;> (try simp only [nm] at g) <;> try (exfalso; first | contradiction | omega)
      | refine Gr.mk (fun g => ?_) (fun g => ?_) <;> (try simp only [nm] at g) <;> try (exfalso; first | contradiction | omega)
      | (refine Run.of ?_; simp (maxSteps := 1000000) (disch := first | omega | assumption | (simp; done) | fail) [*, box_sb, LEx.len, LEx.take14, LEx.drop14, LEl.len, LEl.take4, LEl.drop4, LEl.r0, LEl.r1, LEl.r2, LEl.r3, lenNilS, idx60, idx70, LEl.bRow, wrap_nn, wrap_i64, wk_two, aStep_eq, yNot_plc])
    all_goals first
      | (have hle := conL_le a m (nth e.br (i : Int)); have hsn := (sizeB_nth' (l := e.br) (i := i) (by assumption)); have hf := fold2B (l := e.br) (by assumption) hfd; refine Kt_loop ⟨_, ?_, i + 1, (LEl.conL a m (nth e.br (i : Int))).2, LEx.row H.color (xTwo 7 a y (LEl.conL a m (nth e.br (i : Int))).1), rfl, ?_⟩ <;> (repeat' apply And.intro) <;> first | omega | (simp [*]; done) | (exact .inr ⟨by omega, _, rfl, hf⟩) | ((repeat (first | exact AS.Ext.refl _ | assumption | refine AS.Ext.bump ?_ | refine AS.Ext.kill (by first | omega | (simp; omega) | simp) ?_ | refine AS.Ext.setBox (by first | omega | (simp; omega)) ?_)); done) | (simp; omega) | fail)
      | (have hii : i = e.br.length := (by omega); rw [hii, List.drop_length, LEl.besF] at hfd; have hq1 : (LEl.besB a n e.br).1 = y := (by rw [← hfd]); have hq2 : (LEl.besB a n e.br).2 = m := (by rw [← hfd]); clear hfd; refine Kx.mk ?_; refine owes_fz (H1 := H) [_, _] (l := [.cell 6 121, .tmp 7]) (.inr rfl) hwf (Nat.le_refl _) rfl ?_ ?_ ⟨rfl, rfl⟩ <;> first | (exact below2 (LEx.row_below _ _ _)) | (simp (maxDischargeDepth := 20) [resP, packed, aload, partOf, frzVs, frzV, frzLx, frzL, frz_nil, frz, LEx.len, LEx.take14, *]; (repeat (first | exact AS.Ext.refl _ | assumption | refine AS.Ext.bump ?_ | refine AS.Ext.kill (by first | omega | (simp; omega) | simp) ?_ | refine AS.Ext.setBox (by first | omega | (simp; omega)) ?_)); done) | fail)
      | (exfalso; have hl1 : e.br.length = 0 := (by rw [show e.br = [] by assumption]; rfl); omega)
      | (exfalso; have hl1 : e.br = [] := List.length_eq_zero_iff.1 (by omega); contradiction)
      | fail
mutual
theorem besd_all : ∀ e : LEl, BesD e
  | .mk o p nm br => besd_of _ (besd_rows br)
theorem cond_items : ∀ (l : List LEl), ∀ e ∈ l, BesD e
  | [] => by simp
  | x :: l => by
    have h1 := besd_all x
    have h2 := cond_items l
    intro e he
    rcases List.mem_cons.1 he with rfl | he
    · exact h1
    · exact h2 e he
theorem besd_rows : ∀ (b : List (List LEl)), ∀ l ∈ b, ConD l
  | [] => by simp
  | x :: b => by
    have h1 := cond_of x (cond_items x)
    have h2 := besd_rows b
    intro l hl
    rcases List.mem_cons.1 hl with rfl | hl
    · exact h1
    · exact h2 l hl
end
theorem yConL (l : List LEl) : ConD l := cond_of l (cond_items l)
set_option maxHeartbeats 4000000
/-- The document's ladder: a count and two lists of one's own in a box; O tells its boxes. -/
structure My (H : AS) (O : Nat → Prop) (id c n : Nat) (S : List LSt) (V : List LVr) (p1 p2 : PV) : Prop where
  box : H.box id = some [[pi n, p1, p2]]
  s : OutIs 0 H p1 14 (S.map (LSt.row c))
  v : OutIs 0 H p2 16 (V.map LVr.row)
  own : ∀ j, O j ↔ j = id ∨ (∃ n s, p1 = .msl j n s) ∨ (∃ n s, p2 = .msl j n s)
  ne : ∀ j n s n' s', p1 = .msl j n s → ¬ p2 = .msl j n' s'
  n1 : ∀ n s, ¬ p1 = .msl id n s
  n2 : ∀ n s, ¬ p2 = .msl id n s
  lt : id < H.next
def MyE (H : AS) (O : Nat → Prop) (id c n : Nat) (S : List LSt) (V : List LVr) : Prop := ∃ p1 p2, My H O id c n S V p1 p2
theorem My.ext {H H' : AS} {O : Nat → Prop} {id c n : Nat} {S : List LSt} {V : List LVr} {p1 p2 : PV} (h : My H O id c n S V p1 p2) (he : H.Ext H') : My H' O id c n S V p1 p2 :=
  ⟨by rw [he.box id h.lt]; exact h.box, h.s.keep he.next fun j _ hj => he.box j hj, h.v.keep he.next fun j _ hj => he.box j hj, h.own, h.ne, h.n1, h.n2, Nat.lt_of_lt_of_le h.lt he.next⟩
theorem MyE.ext {H H' : AS} {O : Nat → Prop} {id c n : Nat} {S : List LSt} {V : List LVr} (h : MyE H O id c n S V) (he : H.Ext H') : MyE H' O id c n S V := by
  obtain ⟨p1, p2, h⟩ := h; exact ⟨p1, p2, h.ext he⟩
theorem My.olt {H : AS} {O : Nat → Prop} {id c n : Nat} {S : List LSt} {V : List LVr} {p1 p2 : PV} (h : My H O id c n S V p1 p2) {j : Nat} (hj : O j) : j < H.next := by
  rcases (h.own j).1 hj with rfl | ⟨n, s, e⟩ | ⟨n, s, e⟩
  · exact h.lt
  · exact (h.s.at_lt e).2
  · exact (h.v.at_lt e).2
theorem MyE.olt {H : AS} {O : Nat → Prop} {id c n : Nat} {S : List LSt} {V : List LVr} (h : MyE H O id c n S V) {j : Nat} (hj : O j) : j < H.next := by
  obtain ⟨p1, p2, h⟩ := h; exact h.olt hj
theorem MyE.oid {H : AS} {O : Nat → Prop} {id c n : Nat} {S : List LSt} {V : List LVr} (h : MyE H O id c n S V) : O id := by
  obtain ⟨p1, p2, h⟩ := h; exact (h.own id).2 (.inl rfl)
theorem My.cnt {H : AS} {O : Nat → Prop} {id c n : Nat} {S : List LSt} {V : List LVr} {p1 p2 : PV} (h : My H O id c n S V p1 p2) (n' : Nat) : My (H.setBox id [[pi n', p1, p2]]) O id c n' S V p1 p2 := by
  refine ⟨by simp, ?_, ?_, h.own, h.ne, h.n1, h.n2, h.lt⟩
  · rcases h.s with ⟨e1, e2⟩ | ⟨i, h1, h2, h3, h4⟩
    · exact .inl ⟨e1, e2⟩
    · exact .inr ⟨i, h1, h2, h3, by rw [box_setBox, if_neg fun e => h.n1 _ _ (e ▸ h3)]; exact h4⟩
  · rcases h.v with ⟨e1, e2⟩ | ⟨i, h1, h2, h3, h4⟩
    · exact .inl ⟨e1, e2⟩
    · exact .inr ⟨i, h1, h2, h3, by rw [box_setBox, if_neg fun e => h.n2 _ _ (e ▸ h3)]; exact h4⟩
theorem My.cntMade {H : AS} {O : Nat → Prop} {id c n : Nat} {S : List LSt} {V : List LVr} {p1 p2 : PV} (h : My H O id c n S V p1 p2) (r : List (List PV)) : Made O O H (H.setBox id r) :=
  ⟨by simp, by simp, fun j hj => by simp, fun j hj ho => by rw [box_setBox, if_neg fun e => ho ((h.own j).2 (.inl e))], fun j h => .inl h⟩
theorem my_put {H M H3 : AS} {O : Nat → Prop} {id c n m jl : Nat} {S T : List LSt} {V : List LVr} {p1 p2 p3 : PV} {zs : List (List PV)} (h : My H O id c n S V p1 p2) (he : H.Ext M) (hout : OutIs 0 H3 p3 14 (S.map (LSt.row c) ++ zs)) (hz : ¬ zs = []) (hel : Elsewhere p1 p3 M H3) (hp : p3 = .msl jl m 14) (hm : m = (S ++ T).length) :
    ∃ O', MyE ((H3.setBox jl ((S ++ T).map (LSt.row c))).setBox id [[pi n, .msl jl m 14, p2]]) O' id c n (S ++ T) V ∧ Made O O' H ((H3.setBox jl ((S ++ T).map (LSt.row c))).setBox id [[pi n, .msl jl m 14, p2]]) := by
  have hM' := (h.ext he)
  have hjo : O jl ∨ M.next ≤ jl := by
    rcases hel.own jl _ _ hp with ⟨m, s', e⟩ | h1
    · exact .inl ((h.own jl).2 (.inr (.inl ⟨_, _, e⟩)))
    · exact .inr h1
  have hjid : ¬ jl = id := by
    rcases hel.own jl _ _ hp with ⟨m, s', e⟩ | h1
    · intro e'; subst e'; exact h.n1 _ _ e
    · have := hM'.lt; omega
  have hjv : ∀ n' s', ¬ p2 = .msl jl n' s' := by
    intro n' s' e'
    rcases hel.own jl _ _ hp with ⟨m, s'', e⟩ | h1
    · exact h.ne jl _ _ _ _ e e'
    · have := (hM'.v.at_lt e').2; omega
  obtain ⟨j2, hj2, e2, hb2⟩ := hout.msl (by simp [hz])
  rw [hp] at e2
  injection e2 with e3 e4 e5
  subst e3
  have hM := hel.next
  have hE := he.next
  refine ⟨fun j => j = id ∨ j = jl ∨ ∃ n s, p2 = .msl j n s, ⟨.msl jl m 14, p2, by simp, ?_, ?_, ?_, ?_, ?_, h.n2, ?_⟩, ⟨?_, ?_, ?_, ?_, ?_⟩⟩
  · refine .inr ⟨jl, Nat.zero_le _, by simpa using hj2, ?_, ?_⟩
    · rw [hm]; simp
    · simp [hjid]
  · rcases hM'.v with ⟨e1, e2⟩ | ⟨i, h1, h2, h3, h4⟩
    · exact .inl ⟨e1, e2⟩
    · refine .inr ⟨i, h1, by simp; omega, h3, ?_⟩
      have i1 : ¬ i = id := fun e => h.n2 _ _ (e ▸ h3)
      have i2 : ¬ i = jl := fun e => hjv _ _ (e ▸ h3)
      rw [box_setBox, if_neg i1, box_setBox, if_neg i2, hel.box i h2 fun n s e => h.ne i _ _ _ _ e h3, h4]
  · intro j
    constructor
    · rintro (rfl | rfl | h1)
      · exact .inl rfl
      · exact .inr (.inl ⟨_, _, rfl⟩)
      · exact .inr (.inr h1)
    · rintro (rfl | ⟨n, s, e⟩ | h1)
      · exact .inl rfl
      · injection e with e _ _; exact .inr (.inl e.symm)
      · exact .inr (.inr h1)
  · intro j n s n' s' e e'
    injection e with e _ _; subst e; exact hjv _ _ e'
  · intro n s e
    injection e with e _ _; exact hjid e
  · have := h.lt; simp; omega
  · simp; omega
  · simp [hel.color, he.color]
  · intro j hj; simp [hel.mp j, he.mp j hj]
  · intro j hj ho
    have i1 : ¬ j = id := fun e => ho ((h.own j).2 (.inl e))
    have i2 : ¬ j = jl := by
      rcases hjo with h1 | h1
      · intro e; subst e; exact ho h1
      · omega
    rw [box_setBox, if_neg i1, box_setBox, if_neg i2, hel.box j (by omega) fun n s e => ho ((h.own j).2 (.inr (.inl ⟨_, _, e⟩))), he.box j hj]
  · rintro j (rfl | rfl | ⟨n, s, e⟩)
    · exact .inl ((h.own j).2 (.inl rfl))
    · rcases hjo with h1 | h1
      · exact .inl h1
      · exact .inr (by omega)
    · exact .inl ((h.own j).2 (.inr (.inr ⟨_, _, e⟩)))
theorem my_hid {H M H3 : AS} {O : Nat → Prop} {id c n : Nat} {S : List LSt} {V T : List LVr} {p1 p2 p3 : PV} (h : My H O id c n S V p1 p2) (he : H.Ext M) (hout : OutIs 0 H3 p3 16 (V.map LVr.row ++ T.map LVr.row)) (hT : ¬ T = []) (hel : Elsewhere p2 p3 M H3) :
    ∃ O', MyE (H3.setBox id [[pi n, p1, p3]]) O' id c n S (V ++ T) ∧ Made O O' H (H3.setBox id [[pi n, p1, p3]]) := by
  have hm := (h.ext he)
  obtain ⟨jl, hj2, hp, hb2⟩ := hout.msl (by simp [hT])
  have hjo : O jl ∨ M.next ≤ jl := by
    rcases hel.own jl _ _ hp with ⟨m, s', e⟩ | h1
    · exact .inl ((h.own jl).2 (.inr (.inr ⟨_, _, e⟩)))
    · exact .inr h1
  have hjid : ¬ jl = id := by
    rcases hel.own jl _ _ hp with ⟨m, s', e⟩ | h1
    · intro e'; subst e'; exact h.n2 _ _ e
    · have := hm.lt; omega
  have hjv : ∀ n' s', ¬ p1 = .msl jl n' s' := by
    intro n' s' e'
    rcases hel.own jl _ _ hp with ⟨m, s'', e⟩ | h1
    · exact h.ne jl _ _ _ _ e' e
    · have := (hm.s.at_lt e').2; omega
  have hM := hel.next
  have hE := he.next
  refine ⟨fun j => j = id ∨ (∃ n s, p1 = .msl j n s) ∨ j = jl, ⟨p1, p3, by simp, ?_, ?_, ?_, ?_, h.n1, ?_, ?_⟩, ⟨?_, ?_, ?_, ?_, ?_⟩⟩
  · rcases hm.s with ⟨e1, e2⟩ | ⟨i, h1, h2, h3, h4⟩
    · exact .inl ⟨e1, e2⟩
    · refine .inr ⟨i, h1, by simp; omega, h3, ?_⟩
      have i1 : ¬ i = id := fun e => h.n1 _ _ (e ▸ h3)
      rw [box_setBox, if_neg i1, hel.box i h2 fun n s e => h.ne i _ _ _ _ h3 e, h4]
  · refine .inr ⟨jl, Nat.zero_le _, by simpa using hj2, ?_, ?_⟩
    · rw [hp]; simp
    · simp [hjid, hb2]
  · intro j
    constructor
    · rintro (rfl | h1 | rfl)
      · exact .inl rfl
      · exact .inr (.inl h1)
      · exact .inr (.inr ⟨_, _, hp⟩)
    · rintro (rfl | h1 | ⟨n, s, e⟩)
      · exact .inl rfl
      · exact .inr (.inl h1)
      · rw [hp] at e; injection e with e _ _; exact .inr (.inr e.symm)
  · intro j n s n' s' e e'
    rw [hp] at e'; injection e' with e' _ _; subst e'; exact hjv _ _ e
  · intro n s e
    rw [hp] at e; injection e with e _ _; exact hjid e
  · have := h.lt; simp; omega
  · simp; omega
  · simp [hel.color, he.color]
  · intro j hj; simp [hel.mp j, he.mp j hj]
  · intro j hj ho
    have i1 : ¬ j = id := fun e => ho ((h.own j).2 (.inl e))
    rw [box_setBox, if_neg i1, hel.box j (by omega) fun n s e => ho ((h.own j).2 (.inr (.inr ⟨_, _, e⟩))), he.box j hj]
  · rintro j (rfl | ⟨n, s, e⟩ | rfl)
    · exact .inl ((h.own j).2 (.inl rfl))
    · exact .inl ((h.own j).2 (.inr (.inl ⟨_, _, e⟩)))
    · rcases hjo with h1 | h1
      · exact .inl h1
      · exact .inr (by omega)
/-- A list grows by a list of one's own of several rows. -/
theorem app_rows {P : Program} {lo : Nat} {H : AS} {p : PV} {sz : Nat} {rows : List (List PV)} (h : OutIs lo H p sz rows) (hlo : lo ≤ H.next) {sT elem : TypeId} {zs : List PV} {by_ : Nat}
    (h1 : P.underlying sT = some (.slice elem)) (hsz : szOf P elem = some sz) (hz : zeroOf P elem = some zs) (hb : bytesOf P elem = some by_)
    (hz1 : zs.length = sz) (hz2 : zs.all PV.atomic = true) (hby : 0 < by_) {j m : Nat} {ys : List (List PV)} (hj : H.box j = some ys) (hm : ys.length = m)
    (hsize : (rows.length + m) * by_ ≤ 2 ^ 47) {k : PV → AS → Prop} (hk : ∀ p' H', OutIs lo H' p' sz (rows ++ ys) → Above lo H H' → Elsewhere p p' H H' → Run (k p' H')) : @appendK P H sT sT p (.msl j m sz) ⟨k⟩ :=
  appR (aappend_outR h hlo h1 h1 hsz hz hb hz1 hz2 hby (ys := ys) (by simp [srcOf, hj, hm]) (.inl (by rw [hm]; exact hsize)) hk)
theorem st2a {H : AS} {j n : Nat} {rows : List (List PV)} {z1 z2 : List PV} (c : Nat) (s : LSt) (hb : H.box j = some (rows ++ [z1, z2])) (hn : rows.length = n) (hz : z1.length = 14) : astore Tryz.prog H 51 (.ptr j (n + 2) n 0) (.agg (s.row c)) = some (H.setBox j (rows ++ [s.row c, z2])) := by
  subst hn
  simp [astore, hb, PV.cells, PV.okCells, LSt.len, hz, splice, List.set_append]
  rw [List.drop_eq_nil_of_le (by omega)]; simp
theorem st2b {H : AS} {j n : Nat} {rows : List (List PV)} {z1 z2 : List PV} (c : Nat) (s : LSt) (hb : H.box j = some (rows ++ [z1, z2])) (hn : rows.length = n) (hz : z2.length = 14) : astore Tryz.prog H 51 (.ptr j (n + 2) (n + 1) 0) (.agg (s.row c)) = some (H.setBox j (rows ++ [z1, s.row c])) := by
  subst hn
  have e : (rows ++ [z1, z2])[rows.length + 1]? = some z2 := by simp
  have e2 : (rows ++ [z1, z2]).set (rows.length + 1) (s.row c) = rows ++ [z1, s.row c] := by simp [List.set_append]
  simp [astore, hb, PV.cells, PV.okCells, LSt.len, hz, splice]
  rw [List.drop_eq_nil_of_le (by omega)]; simp [List.set_append]
/-- A region whose ways come together. -/
theorem T_rj {P : Program} {n b : Nat} {F : AF} {H : AS} {Q : Exit → AF → AS → Prop} (id : Nat) (R : AF → AS → Prop) {ops : Array Oper} {d : Bool} {y : Code} (h : T P n b (.region id ops d) F H (thenK R Q)) (h' : Mm P n b y Q R) : T P n b (.region id ops d) F H (thenT P n b y Q) :=
  h.mono fun e F H _ hq => by
    cases e <;> first | exact h'.run _ _ hq | exact hq
structure EdY (H : AS) (O : Nat → Prop) (id : Nat) (S : List LSt) (V : List LVr) (p : Int) (n : Nat) (E : List LEl) (H' : AS) (O' : Nat → Prop) : Prop where
  km : MyE H' O' id H.color (n + E.length) (S ++ edgesS p n E) (V ++ edgesV n E)
  md : Made O O' H H'
theorem EdY.color {H : AS} {O : Nat → Prop} {id : Nat} {S : List LSt} {V : List LVr} {p : Int} {n : Nat} {E : List LEl} {H' : AS} {O' : Nat → Prop} (h : EdY H O id S V p n E H' O') : H'.color = H.color := h.md.color
theorem EdY.ext {H : AS} {O : Nat → Prop} {id : Nat} {S : List LSt} {V : List LVr} {p : Int} {n : Nat} {E : List LEl} {H' M : AS} {O' : Nat → Prop} (h : EdY H O id S V p n E H' O') (he : H'.Ext M) : EdY H O id S V p n E M O' := ⟨h.km.ext he, h.md.extR he⟩
theorem EdY.step {H : AS} {O : Nat → Prop} {id : Nat} {S : List LSt} {V : List LVr} {p : Int} {n : Nat} {E E2 : List LEl} {M H2 : AS} {O' O2 : Nat → Prop} (h : EdY H O id S V p n E M O')
    (hk : MyE H2 O2 id M.color (n + E.length + E2.length) ((S ++ edgesS p n E) ++ edgesS p (n + E.length) E2) ((V ++ edgesV n E) ++ edgesV (n + E.length) E2)) (hd : Made O' O2 M H2) : EdY H O id S V p n (E ++ E2) H2 O2 := by
  refine ⟨?_, h.md.trans hd⟩
  rw [h.color] at hk
  rw [edgesS_append, edgesV_append, ← List.append_assoc, ← List.append_assoc, List.length_append, ← Nat.add_assoc]; exact hk
def RisD (l : List LEl) : Prop := LEl.nmL l → ∀ (H : AS) (O : Nat → Prop) (id n : Nat) (S : List LSt) (V : List LVr) (c : Nat) (a : Int), c = H.color → MyE H O id c n S V →
    S.length + 2 * LEl.sizeL l < 268435456 → V.length + 2 * LEl.sizeL l < 268435456 → n + LEl.sizeL l < 268435456 →
    ACalls Tryz.prog 59 [.ptr id 1 0 0, PV.sl c 4 (l.map (LEl.row c)), pi a] H fun q H' => q = .tuple [] ∧ ∃ O', EdY H O id S V a n (LEl.edgL l) H' O'
theorem lvr_below (n : Nat) (v : LVr) : ∀ p ∈ v.row, Below n p := by
  intro p hp
  simp only [LVr.row, List.mem_cons, List.not_mem_nil, or_false] at hp
  rcases hp with rfl | rfl | rfl | rfl | rfl | rfl | rfl | rfl | rfl | rfl | rfl | rfl | rfl | rfl | rfl | rfl
  all_goals first | exact .val _ | (simp; done)
/-- An equation that simp does not use. -/
structure Is {α : Type} (a b : α) : Prop where
  eq : a = b
theorem bs_two {P : Program} {H H1 : AS} {t elem : TypeId} {sz : Nat} {zs : List PV} {x z : PV} {r1 r2 : List PV} {y : Option (PV × AS)} {k : PV → AS → Prop} (hu : P.underlying t = some (.slice elem)) (hs : szOf P elem = some sz) (hz : zeroOf P elem = some zs)
    (hok : x.okCells = true) (hlen : x.cells.length = sz) (hok2 : z.okCells = true) (hlen2 : z.cells.length = sz) (hsz : 2 * sz ≤ 2 ^ 24) (hf : frzR H [x.cells, z.cells] = ([r1, r2], H1)) (h : k (.msl H1.next 2 sz) ((H1.setBox H1.next [r1, r2]).bump 1)) : @eitherK (abuildSlice P H t 2 [(0, x), (1, z)]) y ⟨k⟩ := by
  have e : abuildSlice P H t 2 [(0, x), (1, z)] = some (.msl H1.next 2 sz, (H1.setBox H1.next [r1, r2]).bump 1) := by
    simp only [abuildSlice, hu, hs, hz]
    rw [if_pos ⟨rfl, by omega, by simp [hok, hlen, hok2, hlen2]⟩]
    simp [hf]
  rw [e]; exact eitherK.fz h
theorem yVar (H : AS) (s : ByteArray) (cl : Int) : ACalls Tryz.prog 63 [ps s, pi cl] H fun q H' => q = .agg (LVr.row ⟨s, cl, 1⟩) ∧ H' = H := by
  skip
  all_goals (refine ACalls_intro Tryz.func63 rfl (by kernel_rfl) (by simp) fun hwf hbel => ?_)
  all_goals (
    repeat' first
      | refine T_seq ?_
      | refine T_rgn ?_
      | refine T_cd ?_
      | refine T_sk ?_
      | refine T_rt ?_
      | refine T_block ?_
      | refine T_ex ?_
      | refine Kt_then ?_
      | refine Kt_block ?_
      | refine Kr_then ?_
      | refine Kr_block ?_
      | refine Ke_here ?_
      | refine Ke_then ?_
      | refine Hid.mk ?_
      | refine Gs.mk (fun g => ?_) (fun g => ?_) <;> (try simp only [nm] at g) <;> try (exfalso; first | contradiction | omega)
      | refine Gr.mk (fun g => ?_) (fun g => ?_) <;> (try simp only [nm] at g) <;> try (exfalso; first | contradiction | omega)
      | (refine Run.of ?_; simp (maxSteps := 1000000) (disch := first | omega | assumption | (simp; done) | fail) [*]))
  all_goals ((first | refine Kx.mk ?_ | refine Kt.mk ?_); refine owes_fz (H1 := H) [_] (l := [.cell 4 111]) (by first | exact .inr rfl | exact .inl rfl) hwf (Nat.le_refl _) rfl ?_ ?_ ⟨rfl, rfl⟩ <;> first | (exact below_agg1 (lvr_below _ _)) | (exact below_agg1 (LSt.row_below _ _ _)) | (simp (maxDischargeDepth := 20) [resP, packed, aload, partOf, frzVs, frzV, frzL, frz_nil, frz_msl, frz, LVr.row, LEx.row_mk, LSt.row_mk, xNot, xTwo, xTru, xNam, sSet, sIf, LEx.at', *]; done) | (simp (maxDischargeDepth := 20) [resP, packed, aload, partOf, frzVs, frzV, frzL, frz_nil, frz_msl, frz, LVr.row, LEx.row_mk, LSt.row_mk, xNot, xTwo, xTru, xNam, sSet, sIf, LEx.at', *]; first | (exact (by repeat (first | exact AS.Ext.refl _ | assumption | refine AS.Ext.bump ?_ | refine AS.Ext.kill (by first | omega | (simp; omega) | simp) ?_ | refine AS.Ext.setBox (by first | omega | (simp; omega)) ?_)); done) | (refine ⟨?_, (by repeat (first | exact AS.Ext.refl _ | assumption | refine AS.Ext.bump ?_ | refine AS.Ext.setBox (by first | omega | (simp; omega)) ?_))⟩; done)) | fail)
theorem yNot_nam (s : ByteArray) (a : Int) : yNot (xNam s a) a = xNot (xNam s a) := rfl
theorem extO_ext {M H H' : AS} {js : Nat} (h : M.Ext H) (ho : ExtO js H H') (hj : M.next ≤ js) : M.Ext H' :=
  ⟨Nat.le_trans h.next ho.next, fun id hi => by rw [ho.box id (Nat.lt_of_lt_of_le hi h.next) (by omega)]; exact h.box id hi, fun id hi => by rw [ho.mp id (Nat.lt_of_lt_of_le hi h.next)]; exact h.mp id hi, by rw [ho.color]; exact h.color⟩
theorem T_rk {P : Program} {n b : Nat} {F : AF} {H : AS} {x : Code} {R : AF → AS → Prop} {Q : Exit → AF → AS → Prop} (h : T P n b x F H (thenK R Q)) (h' : ∀ F' H', R F' H' → @Kt ⟨Q .normal⟩ F' H') : T P n b x F H Q :=
  h.mono fun e F H _ hq => by
    cases e <;> first | exact (h' _ _ hq).get | exact hq
theorem rg12 {b : Nat} {Q : Exit → AF → AS → Prop} (F : AF) (H : AS) (jx N c : Nat) (e : LEl) (h7 : F 7 = .ptr jx 1 0 0) (h11 : F 11 = ps (hP (N + 1))) (bx : H.box jx = some [e.row c]) (lx : jx < H.next) (hn : e.name.size ≤ 262145) :
    T Tryz.prog Tryz.f59.ntmps b (.region 12 #[{ dst := some 61, op := Op.fieldAddr 72 (Operand.tmp 7) 2, type := 0, pos := "ref.go:65", after := #[], guard := none }, { dst := some 62, op := Op.load 9 (Operand.tmp 61), type := 9, pos := "ref.go:65", after := #[{ on := 0, ground := Ground.data }], guard := none }, { dst := some 63, op := Op.fieldAddr 72 (Operand.tmp 7) 1, type := 0, pos := "ref.go:65", after := #[], guard := none }, { dst := some 64, op := Op.load 3 (Operand.tmp 63), type := 3, pos := "ref.go:65", after := #[{ on := 2, ground := Ground.data }], guard := none }, { dst := some 65, op := Op.call { callee := Callee.value (Operand.func 93), args := #[Operand.tmp 62, Operand.tmp 64], argTypes := #[9, 3] }, type := 121, pos := "ref.go:65", after := #[{ on := 1, ground := Ground.data }, { on := 3, ground := Ground.data }], guard := none }, { dst := some 66, op := Op.move (Operand.tmp 11), type := 9, pos := "ref.go:65", after := #[], guard := none }, { dst := some 67, op := Op.fieldAddr 72 (Operand.tmp 7) 1, type := 0, pos := "ref.go:65", after := #[], guard := none }, { dst := some 68, op := Op.load 3 (Operand.tmp 67), type := 3, pos := "ref.go:65", after := #[{ on := 6, ground := Ground.data }], guard := none }, { dst := some 69, op := Op.call { callee := Callee.value (Operand.func 62), args := #[Operand.tmp 66, Operand.tmp 68], argTypes := #[9, 3] }, type := 121, pos := "ref.go:65", after := #[{ on := 5, ground := Ground.data }, { on := 7, ground := Ground.data }, { on := 4, ground := Ground.chain }], guard := none }, { dst := some 12, op := Op.alloc 121, type := 0, pos := "ref.go:65", after := #[], guard := none }, { dst := some 13, op := Op.alloc 121, type := 0, pos := "ref.go:65", after := #[], guard := none }, { dst := none, op := Op.store 121 (Operand.tmp 12) (Operand.tmp 65), type := 0, pos := "ref.go:65", after := #[{ on := 9, ground := Ground.data }, { on := 4, ground := Ground.data }, { on := 8, ground := Ground.chain }, { on := 0, ground := Ground.phase }, { on := 1, ground := Ground.phase }, { on := 2, ground := Ground.phase }, { on := 3, ground := Ground.phase }, { on := 4, ground := Ground.phase }, { on := 5, ground := Ground.textOnly Departure.lateStores }, { on := 6, ground := Ground.textOnly Departure.lateStores }, { on := 7, ground := Ground.textOnly Departure.lateStores }, { on := 8, ground := Ground.textOnly Departure.lateStoresUnsure }, { on := 9, ground := Ground.phase }, { on := 10, ground := Ground.phase }], guard := none }, { dst := none, op := Op.store 121 (Operand.tmp 13) (Operand.tmp 69), type := 0, pos := "ref.go:65", after := #[{ on := 10, ground := Ground.data }, { on := 8, ground := Ground.data }, { on := 11, ground := Ground.chain }, { on := 0, ground := Ground.phase }, { on := 1, ground := Ground.phase }, { on := 2, ground := Ground.phase }, { on := 3, ground := Ground.phase }, { on := 4, ground := Ground.phase }, { on := 5, ground := Ground.phase }, { on := 6, ground := Ground.phase }, { on := 7, ground := Ground.phase }, { on := 8, ground := Ground.phase }, { on := 9, ground := Ground.phase }, { on := 10, ground := Ground.phase }, { on := 11, ground := Ground.phase }], guard := none }] true) F H (thenK (fun F' H' => ∃ (ja jp : Nat), F' 0 = F 0 ∧ F' 2 = F 2 ∧ F' 7 = F 7 ∧ F' 10 = F 10 ∧ F' 11 = F 11 ∧ F' 15 = F 15 ∧ F' 16 = F 16 ∧ F' 17 = F 17 ∧ F' 12 = .ptr ja 1 0 0 ∧ F' 13 = .ptr jp 1 0 0 ∧ H.next ≤ ja ∧ H.next ≤ jp ∧ ja < H'.next ∧ jp < H'.next ∧ ¬ ja = jp ∧ H'.box ja = some [(xPlc e.name e.pos).row H.color] ∧ H'.box jp = some [(xNam (hP (N + 1)) e.pos).row H.color] ∧ H.Ext H') Q) := by
  have i1 : ¬ jx = H.next := by omega
  have i2 : ¬ jx = H.next + 1 := by omega
  repeat' first
    | refine T_seq ?_
    | refine T_rgn ?_
    | refine T_cd ?_
    | refine T_sk ?_
    | refine T_rt ?_
    | refine T_block ?_
    | refine T_ex ?_
    | refine Kt_then ?_
    | refine Kt_block ?_
    | refine Kr_then ?_
    | refine Kr_block ?_
    | refine Kr_loop ?_
    | refine Ke_here ?_
    | refine Ke_then ?_
    | refine Ke_loop ?_
    | refine Ke_block ?_
    | refine Hid.mk ?_
    | refine T_dr3 (id := 12) (fun j => j = jx) [12] (.pre (.free 0 (.free 1 (.free 2 (.free 3 (.free 5 (.free 6 (.free 7 .done))))))) (.three 4 9 10 (.three 8 9 10 (.base (.two 9 10 (.sole 10 (.sole 11 (.sole 12 .done))) (.sole 9 (.sole 11 (.sole 12 .done))))) (.base (.two 8 10 (.sole 10 (.sole 11 (.sole 12 .done))) (.sole 8 (.sole 11 (.sole 12 .done))))) (.base (.two 8 9 (.sole 9 (.sole 11 (.sole 12 .done))) (.sole 8 (.sole 11 (.sole 12 .done)))))) (.base (.two 4 10 (.two 8 10 (.sole 10 (.sole 11 (.sole 12 .done))) (.sole 8 (.sole 11 (.sole 12 .done)))) (.sole 4 (.sole 8 (.sole 11 (.sole 12 .done)))))) (.base (.two 4 9 (.two 8 9 (.sole 9 (.sole 11 (.sole 12 .done))) (.sole 8 (.sole 11 (.sole 12 .done)))) (.sole 4 (.sole 8 (.sole 11 (.sole 12 .done)))))))) mix ?_
    | (refine eitherK.raw ?_; simp (maxSteps := 1000000) (disch := first | omega | assumption | (simp; done) | fail) [*, box_sb, LEx.len, LEx.take14, LEx.drop14, LEl.len, LEl.take4, LEl.drop4, LEl.r0, LEl.r1, LEl.r2, LEl.r3, lenNilS, idx26, wrap_nn, wk_two, aStep_eq, wk3_base, wk3_pre, wk3_three, yNot_plc, yNot_nam, LSt.len, LSt.take14])
    | refine And.intro (fun _ h1 h2 => absurd h2 h1) ?_
    | refine And.intro ?_ ?_
    | (refine callR (yPlace _ _ _ hn) ?_; rintro _ Hz ⟨rfl, hz⟩; subst Hz)
    | (refine callR (yNamed _ _ _) ?_; rintro _ Hz ⟨rfl, hz⟩; subst Hz)
    | refine Gs.mk (fun g => ?_) (fun g => ?_) <;> (try simp only [nm] at g) <;> try (exfalso; first | contradiction | omega)
    | refine Gr.mk (fun g => ?_) (fun g => ?_) <;> (try simp only [nm] at g) <;> try (exfalso; first | contradiction | omega)
    | (refine Run.of ?_; simp (maxSteps := 1000000) (disch := first | omega | assumption | (simp; done) | fail) [*, box_sb, LEx.len, LEx.take14, LEx.drop14, LEl.len, LEl.take4, LEl.drop4, LEl.r0, LEl.r1, LEl.r2, LEl.r3, lenNilS, idx26, wrap_nn, wk_two, aStep_eq, wk3_base, wk3_pre, wk3_three, yNot_plc, yNot_nam, LSt.len, LSt.take14])
  all_goals (refine Kt_thenK ?_; first | (refine ⟨H.next, H.next + 1, ?_⟩; (repeat' apply And.intro) <;> first | rfl | omega | (simp [*]; done) | ((repeat (first | exact AS.Ext.refl _ | assumption | refine AS.Ext.bump ?_ | refine AS.Ext.kill (by first | omega | (simp; omega) | simp) ?_ | refine AS.Ext.setBox (by first | omega | (simp; omega)) ?_)); done) | (simp; omega) | fail) | (refine ⟨H.next + 1, H.next, ?_⟩; (repeat' apply And.intro) <;> first | rfl | omega | (simp [*]; done) | ((repeat (first | exact AS.Ext.refl _ | assumption | refine AS.Ext.bump ?_ | refine AS.Ext.kill (by first | omega | (simp; omega) | simp) ?_ | refine AS.Ext.setBox (by first | omega | (simp; omega)) ?_)); done) | (simp; omega) | fail) | fail)
theorem rg13 {b : Nat} {Q : Exit → AF → AS → Prop} (F : AF) (H : AS) (jx ja jp N c : Nat) (e : LEl) (h7 : F 7 = .ptr jx 1 0 0) (h12 : F 12 = .ptr ja 1 0 0) (h13 : F 13 = .ptr jp 1 0 0) (bx : H.box jx = some [e.row c]) (ba : H.box ja = some [(xPlc e.name e.pos).row H.color]) (bp : H.box jp = some [(xNam (hP (N + 1)) e.pos).row H.color]) (lx : jx < H.next) (la : ja < H.next) (lp : jp < H.next) :
    T Tryz.prog Tryz.f59.ntmps b (.region 13 #[{ dst := some 70, op := Op.load 121 (Operand.tmp 12), type := 121, pos := "ref.go:66", after := #[], guard := none }, { dst := some 71, op := Op.load 121 (Operand.tmp 13), type := 121, pos := "ref.go:66", after := #[], guard := none }, { dst := some 72, op := Op.fieldAddr 72 (Operand.tmp 7) 1, type := 0, pos := "ref.go:66", after := #[], guard := none }, { dst := some 73, op := Op.load 3 (Operand.tmp 72), type := 3, pos := "ref.go:66", after := #[{ on := 2, ground := Ground.data }], guard := none }, { dst := some 74, op := Op.call { callee := Callee.value (Operand.func 95), args := #[Operand.tmp 71, Operand.tmp 73], argTypes := #[121, 3] }, type := 121, pos := "ref.go:66", after := #[{ on := 1, ground := Ground.data }, { on := 3, ground := Ground.data }], guard := none }, { dst := some 75, op := Op.fieldAddr 72 (Operand.tmp 7) 1, type := 0, pos := "ref.go:66", after := #[], guard := none }, { dst := some 76, op := Op.load 3 (Operand.tmp 75), type := 3, pos := "ref.go:66", after := #[{ on := 5, ground := Ground.data }], guard := none }, { dst := some 77, op := Op.call { callee := Callee.value (Operand.func 94), args := #[Operand.const (Value.int IntKind.i64 6), Operand.tmp 70, Operand.tmp 74, Operand.tmp 76], argTypes := #[3, 121, 121, 3] }, type := 121, pos := "ref.go:66", after := #[{ on := 0, ground := Ground.data }, { on := 4, ground := Ground.data }, { on := 6, ground := Ground.data }, { on := 4, ground := Ground.chain }], guard := none }, { dst := some 14, op := Op.alloc 121, type := 0, pos := "ref.go:66", after := #[], guard := none }, { dst := none, op := Op.store 121 (Operand.tmp 14) (Operand.tmp 77), type := 0, pos := "ref.go:66", after := #[{ on := 8, ground := Ground.data }, { on := 7, ground := Ground.data }, { on := 7, ground := Ground.chain }, { on := 0, ground := Ground.phase }, { on := 1, ground := Ground.phase }, { on := 2, ground := Ground.phase }, { on := 3, ground := Ground.phase }, { on := 4, ground := Ground.phase }, { on := 5, ground := Ground.phase }, { on := 6, ground := Ground.phase }, { on := 7, ground := Ground.phase }, { on := 8, ground := Ground.phase }], guard := none }] true) F H (thenK (fun F' H' => ∃ (js : Nat), F' 0 = F 0 ∧ F' 2 = F 2 ∧ F' 7 = F 7 ∧ F' 10 = F 10 ∧ F' 11 = F 11 ∧ F' 15 = F 15 ∧ F' 16 = F 16 ∧ F' 17 = F 17 ∧ F' 12 = F 12 ∧ F' 13 = F 13 ∧ F' 14 = .ptr js 1 0 0 ∧ H.next ≤ js ∧ js < H'.next ∧ H'.box js = some [(xTwo 6 e.pos (xPlc e.name e.pos) (xNot (xNam (hP (N + 1)) e.pos))).row H.color] ∧ H.Ext H') Q) := by
  have i1 : ¬ jx = H.next := by omega
  have i2 : ¬ ja = H.next := by omega
  have i3 : ¬ jp = H.next := by omega
  repeat' first
    | refine T_seq ?_
    | refine T_rgn ?_
    | refine T_cd ?_
    | refine T_sk ?_
    | refine T_rt ?_
    | refine T_block ?_
    | refine T_ex ?_
    | refine Kt_then ?_
    | refine Kt_block ?_
    | refine Kr_then ?_
    | refine Kr_block ?_
    | refine Kr_loop ?_
    | refine Ke_here ?_
    | refine Ke_then ?_
    | refine Ke_loop ?_
    | refine Ke_block ?_
    | refine Hid.mk ?_
    | refine T_dr (id := 13) (fun j => j = jx ∨ j = ja ∨ j = jp) [9] (.free 0 (.free 1 (.free 2 (.free 3 (.free 5 (.free 6 (.two 4 8 (.two 7 8 (.sole 8 (.sole 9 .done)) (.sole 7 (.sole 9 .done))) (.sole 4 (.sole 7 (.sole 9 .done)))))))))) mix ?_
    | (refine eitherK.raw ?_; simp (maxSteps := 1000000) (disch := first | omega | assumption | (simp; done) | fail) [*, box_sb, LEx.len, LEx.take14, LEx.drop14, LEl.len, LEl.take4, LEl.drop4, LEl.r0, LEl.r1, LEl.r2, LEl.r3, lenNilS, idx26, wrap_nn, wk_two, aStep_eq, wk3_base, wk3_pre, wk3_three, yNot_plc, yNot_nam, LSt.len, LSt.take14])
    | refine And.intro (fun _ h1 h2 => absurd h2 h1) ?_
    | refine And.intro ?_ ?_
    | (refine callR (yNot_ _ H.color (xNam (hP (N + 1)) e.pos) e.pos (by simp [*])) ?_; rintro _ Hz ⟨rfl, hz⟩; subst Hz)
    | (refine callR (yTwo_ _ 6 e.pos H.color (xPlc e.name e.pos) (xNot (xNam (hP (N + 1)) e.pos)) (by simp [*])) ?_; rintro _ Hz ⟨rfl, hz⟩; subst Hz)
    | refine Gs.mk (fun g => ?_) (fun g => ?_) <;> (try simp only [nm] at g) <;> try (exfalso; first | contradiction | omega)
    | refine Gr.mk (fun g => ?_) (fun g => ?_) <;> (try simp only [nm] at g) <;> try (exfalso; first | contradiction | omega)
    | (refine Run.of ?_; simp (maxSteps := 1000000) (disch := first | omega | assumption | (simp; done) | fail) [*, box_sb, LEx.len, LEx.take14, LEx.drop14, LEl.len, LEl.take4, LEl.drop4, LEl.r0, LEl.r1, LEl.r2, LEl.r3, lenNilS, idx26, wrap_nn, wk_two, aStep_eq, wk3_base, wk3_pre, wk3_three, yNot_plc, yNot_nam, LSt.len, LSt.take14])
  all_goals (refine Kt_thenK ?_; first | (refine ⟨H.next, ?_⟩; (repeat' apply And.intro) <;> first | rfl | omega | (simp [*]; done) | ((repeat (first | exact AS.Ext.refl _ | assumption | refine AS.Ext.bump ?_ | refine AS.Ext.kill (by first | omega | (simp; omega) | simp) ?_ | refine AS.Ext.setBox (by first | omega | (simp; omega)) ?_)); done) | (simp; omega) | fail) | fail)
theorem rg15 {b : Nat} {Q : Exit → AF → AS → Prop} (F : AF) (H : AS) (jx ja jp js N c : Nat) (e : LEl) (h7 : F 7 = .ptr jx 1 0 0) (h12 : F 12 = .ptr ja 1 0 0) (h13 : F 13 = .ptr jp 1 0 0) (bx : H.box jx = some [e.row c]) (ba : H.box ja = some [(xPlc e.name e.pos).row H.color]) (bp : H.box jp = some [(xNam (hP (N + 1)) e.pos).row H.color]) (lx : jx < H.next) (la : ja < H.next) (lp : jp < H.next) (h14 : F 14 = .ptr js 1 0 0) (bs : ∃ x : LEx, H.box js = some [x.row H.color]) (hxs : ¬ jx = js) (has : ¬ ja = js) (hps : ¬ jp = js) (ls : js < H.next) :
    T Tryz.prog Tryz.f59.ntmps b (.region 15 #[{ dst := some 81, op := Op.load 121 (Operand.tmp 12), type := 121, pos := "ref.go:68", after := #[], guard := none }, { dst := some 82, op := Op.fieldAddr 72 (Operand.tmp 7) 1, type := 0, pos := "ref.go:68", after := #[], guard := none }, { dst := some 83, op := Op.load 3 (Operand.tmp 82), type := 3, pos := "ref.go:68", after := #[{ on := 1, ground := Ground.data }], guard := none }, { dst := some 84, op := Op.call { callee := Callee.value (Operand.func 95), args := #[Operand.tmp 81, Operand.tmp 83], argTypes := #[121, 3] }, type := 121, pos := "ref.go:68", after := #[{ on := 0, ground := Ground.data }, { on := 2, ground := Ground.data }], guard := none }, { dst := some 85, op := Op.load 121 (Operand.tmp 13), type := 121, pos := "ref.go:68", after := #[], guard := none }, { dst := some 86, op := Op.fieldAddr 72 (Operand.tmp 7) 1, type := 0, pos := "ref.go:68", after := #[], guard := none }, { dst := some 87, op := Op.load 3 (Operand.tmp 86), type := 3, pos := "ref.go:68", after := #[{ on := 5, ground := Ground.data }], guard := none }, { dst := some 88, op := Op.call { callee := Callee.value (Operand.func 94), args := #[Operand.const (Value.int IntKind.i64 6), Operand.tmp 84, Operand.tmp 85, Operand.tmp 87], argTypes := #[3, 121, 121, 3] }, type := 121, pos := "ref.go:68", after := #[{ on := 3, ground := Ground.data }, { on := 4, ground := Ground.data }, { on := 6, ground := Ground.data }, { on := 3, ground := Ground.chain }], guard := none }, { dst := none, op := Op.store 121 (Operand.tmp 14) (Operand.tmp 88), type := 0, pos := "ref.go:68", after := #[{ on := 7, ground := Ground.data }, { on := 7, ground := Ground.chain }, { on := 0, ground := Ground.phase }, { on := 1, ground := Ground.phase }, { on := 2, ground := Ground.phase }, { on := 3, ground := Ground.phase }, { on := 4, ground := Ground.phase }, { on := 5, ground := Ground.phase }, { on := 6, ground := Ground.phase }, { on := 7, ground := Ground.phase }], guard := none }] true) F H (thenK (fun F' H' => F' 0 = F 0 ∧ F' 2 = F 2 ∧ F' 7 = F 7 ∧ F' 10 = F 10 ∧ F' 11 = F 11 ∧ F' 15 = F 15 ∧ F' 16 = F 16 ∧ F' 17 = F 17 ∧ F' 12 = F 12 ∧ F' 13 = F 13 ∧ F' 14 = F 14 ∧ H'.box js = some [(xTwo 6 e.pos (xNot (xPlc e.name e.pos)) (xNam (hP (N + 1)) e.pos)).row H.color] ∧ ExtO js H H') Q) := by
  obtain ⟨x, bs⟩ := bs
  repeat' first
    | refine T_seq ?_
    | refine T_rgn ?_
    | refine T_cd ?_
    | refine T_sk ?_
    | refine T_rt ?_
    | refine T_block ?_
    | refine T_ex ?_
    | refine Kt_then ?_
    | refine Kt_block ?_
    | refine Kr_then ?_
    | refine Kr_block ?_
    | refine Kr_loop ?_
    | refine Ke_here ?_
    | refine Ke_then ?_
    | refine Ke_loop ?_
    | refine Ke_block ?_
    | refine Hid.mk ?_
    | refine T_dr (id := 15) (fun j => j = jx ∨ j = ja ∨ j = jp) [8] (.free 0 (.free 1 (.free 2 (.free 4 (.free 5 (.free 6 (.sole 3 (.sole 7 (.sole 8 .done))))))))) mix ?_
    | (refine eitherK.raw ?_; simp (maxSteps := 1000000) (disch := first | omega | assumption | (simp; done) | fail) [*, box_sb, LEx.len, LEx.take14, LEx.drop14, LEl.len, LEl.take4, LEl.drop4, LEl.r0, LEl.r1, LEl.r2, LEl.r3, lenNilS, idx26, wrap_nn, wk_two, aStep_eq, wk3_base, wk3_pre, wk3_three, yNot_plc, yNot_nam, LSt.len, LSt.take14])
    | refine And.intro (fun _ h1 h2 => absurd h2 h1) ?_
    | refine And.intro ?_ ?_
    | (refine callR (yNot_ _ H.color (xPlc e.name e.pos) e.pos (by simp [*])) ?_; rintro _ Hz ⟨rfl, hz⟩; subst Hz)
    | (refine callR (yTwo_ _ 6 e.pos H.color (xNot (xPlc e.name e.pos)) (xNam (hP (N + 1)) e.pos) (by simp [*])) ?_; rintro _ Hz ⟨rfl, hz⟩; subst Hz)
    | refine Gs.mk (fun g => ?_) (fun g => ?_) <;> (try simp only [nm] at g) <;> try (exfalso; first | contradiction | omega)
    | refine Gr.mk (fun g => ?_) (fun g => ?_) <;> (try simp only [nm] at g) <;> try (exfalso; first | contradiction | omega)
    | (refine Run.of ?_; simp (maxSteps := 1000000) (disch := first | omega | assumption | (simp; done) | fail) [*, box_sb, LEx.len, LEx.take14, LEx.drop14, LEl.len, LEl.take4, LEl.drop4, LEl.r0, LEl.r1, LEl.r2, LEl.r3, lenNilS, idx26, wrap_nn, wk_two, aStep_eq, wk3_base, wk3_pre, wk3_three, yNot_plc, yNot_nam, LSt.len, LSt.take14])
  all_goals (refine Kt_thenK ?_; (repeat' apply And.intro) <;> first | rfl | omega | (simp [*]; done) | ((repeat (first | assumption | exact ExtO.refl _ _ | refine ExtO.bump ?_ | refine ExtO.setId ?_ | refine ExtO.setBox (by first | omega | (simp; omega)) ?_)); done) | fail)
set_option maxHeartbeats 4000000
theorem rg16 {b : Nat} {Q : Exit → AF → AS → Prop} (F : AF) (H : AS) (O : Nat → Prop) (id jx ja jp js N c n : Nat) (a : Int) (e : LEl) (x : LEx) (S : List LSt) (V : List LVr) (h0 : F 0 = .ptr id 1 0 0) (h2 : F 2 = pi a) (h7 : F 7 = .ptr jx 1 0 0) (h10 : F 10 = ps (hE (N + 1))) (h12 : F 12 = .ptr ja 1 0 0) (h13 : F 13 = .ptr jp 1 0 0) (h14 : F 14 = .ptr js 1 0 0) (bx : H.box jx = some [e.row c]) (ba : H.box ja = some [(xPlc e.name e.pos).row H.color]) (bp : H.box jp = some [(xNam (hP (N + 1)) e.pos).row H.color]) (bs : H.box js = some [x.row H.color]) (lx : jx < H.next) (la : ja < H.next) (lp : jp < H.next) (ls : js < H.next) (ox : ¬ O jx) (oa : ¬ O ja) (op : ¬ O jp) (os : ¬ O js) (hmy : MyE H O id H.color n S V) (hS : S.length + 2 < 268435456) :
    T Tryz.prog Tryz.f59.ntmps b (.region 16 #[{ dst := some 89, op := Op.move (Operand.tmp 0), type := 135, pos := "ref.go:70", after := #[], guard := none }, { dst := some 90, op := Op.nilCheck (Operand.tmp 89), type := 0, pos := "ref.go:70", after := #[{ on := 0, ground := Ground.data }], guard := none }, { dst := some 91, op := Op.fieldAddr 137 (Operand.tmp 90) 1, type := 0, pos := "ref.go:70", after := #[{ on := 1, ground := Ground.data }], guard := none }, { dst := some 92, op := Op.load 26 (Operand.tmp 91), type := 26, pos := "ref.go:70", after := #[{ on := 2, ground := Ground.data }], guard := none }, { dst := some 93, op := Op.move (Operand.tmp 10), type := 9, pos := "ref.go:70", after := #[], guard := none }, { dst := some 94, op := Op.fieldAddr 72 (Operand.tmp 7) 1, type := 0, pos := "ref.go:70", after := #[], guard := none }, { dst := some 95, op := Op.load 3 (Operand.tmp 94), type := 3, pos := "ref.go:70", after := #[{ on := 5, ground := Ground.data }], guard := none }, { dst := some 96, op := Op.call { callee := Callee.value (Operand.func 62), args := #[Operand.tmp 93, Operand.tmp 95], argTypes := #[9, 3] }, type := 121, pos := "ref.go:70", after := #[{ on := 4, ground := Ground.data }, { on := 6, ground := Ground.data }], guard := none }, { dst := some 97, op := Op.load 121 (Operand.tmp 14), type := 121, pos := "ref.go:70", after := #[], guard := none }, { dst := some 98, op := Op.move (Operand.tmp 2), type := 3, pos := "ref.go:70", after := #[], guard := none }, { dst := some 99, op := Op.call { callee := Callee.value (Operand.func 61), args := #[Operand.tmp 96, Operand.tmp 97, Operand.tmp 98], argTypes := #[121, 121, 3] }, type := 51, pos := "ref.go:70", after := #[{ on := 7, ground := Ground.data }, { on := 8, ground := Ground.data }, { on := 9, ground := Ground.data }, { on := 7, ground := Ground.chain }], guard := none }, { dst := some 100, op := Op.load 121 (Operand.tmp 13), type := 121, pos := "ref.go:70", after := #[], guard := none }, { dst := some 101, op := Op.load 121 (Operand.tmp 12), type := 121, pos := "ref.go:70", after := #[], guard := none }, { dst := some 102, op := Op.move (Operand.tmp 2), type := 3, pos := "ref.go:70", after := #[], guard := none }, { dst := some 103, op := Op.call { callee := Callee.value (Operand.func 61), args := #[Operand.tmp 100, Operand.tmp 101, Operand.tmp 102], argTypes := #[121, 121, 3] }, type := 51, pos := "ref.go:70", after := #[{ on := 11, ground := Ground.data }, { on := 12, ground := Ground.data }, { on := 13, ground := Ground.data }, { on := 10, ground := Ground.chain }], guard := none }, { dst := some 104, op := Op.call { callee := Callee.builtin Builtin.len, args := #[Operand.tmp 92], argTypes := #[26] }, type := 3, pos := "ref.go:70", after := #[{ on := 3, ground := Ground.data }], guard := none }, { dst := some 105, op := Op.buildSlice 26 2 #[(0, Operand.const (Value.agg #[Value.int IntKind.i64 0, Value.int IntKind.i64 0, Value.string { data := #[] }, Value.int IntKind.i64 0, Value.slice none 0 0, Value.slice none 0 0, Value.slice none 0 0, Value.slice none 0 0, Value.slice none 0 0, Value.slice none 0 0, Value.slice none 0 0, Value.int IntKind.u8 0, Value.int IntKind.i64 0, Value.int IntKind.i64 0])), (1, Operand.const (Value.agg #[Value.int IntKind.i64 0, Value.int IntKind.i64 0, Value.string { data := #[] }, Value.int IntKind.i64 0, Value.slice none 0 0, Value.slice none 0 0, Value.slice none 0 0, Value.slice none 0 0, Value.slice none 0 0, Value.slice none 0 0, Value.slice none 0 0, Value.int IntKind.u8 0, Value.int IntKind.i64 0, Value.int IntKind.i64 0]))], type := 26, pos := "ref.go:70", after := #[], guard := none }, { dst := some 106, op := Op.call { callee := Callee.builtin Builtin.append, args := #[Operand.tmp 92, Operand.tmp 105], argTypes := #[26, 26] }, type := 26, pos := "ref.go:70", after := #[{ on := 3, ground := Ground.data }, { on := 16, ground := Ground.data }, { on := 14, ground := Ground.chain }, { on := 0, ground := Ground.phase }, { on := 1, ground := Ground.phase }, { on := 2, ground := Ground.phase }, { on := 3, ground := Ground.phase }, { on := 4, ground := Ground.phase }, { on := 5, ground := Ground.phase }, { on := 6, ground := Ground.phase }, { on := 7, ground := Ground.phase }, { on := 8, ground := Ground.phase }, { on := 9, ground := Ground.phase }, { on := 10, ground := Ground.phase }, { on := 11, ground := Ground.phase }, { on := 12, ground := Ground.phase }, { on := 13, ground := Ground.phase }, { on := 14, ground := Ground.phase }, { on := 15, ground := Ground.phase }, { on := 16, ground := Ground.phase }], guard := none }, { dst := some 107, op := Op.indexAddr 26 (Operand.tmp 106) (Operand.tmp 104), type := 0, pos := "ref.go:70", after := #[{ on := 17, ground := Ground.data }, { on := 15, ground := Ground.data }, { on := 0, ground := Ground.phase }, { on := 1, ground := Ground.phase }, { on := 2, ground := Ground.phase }, { on := 3, ground := Ground.phase }, { on := 4, ground := Ground.phase }, { on := 5, ground := Ground.phase }, { on := 6, ground := Ground.phase }, { on := 7, ground := Ground.phase }, { on := 8, ground := Ground.phase }, { on := 9, ground := Ground.phase }, { on := 10, ground := Ground.phase }, { on := 11, ground := Ground.phase }, { on := 12, ground := Ground.phase }, { on := 13, ground := Ground.phase }, { on := 14, ground := Ground.phase }, { on := 15, ground := Ground.phase }, { on := 16, ground := Ground.phase }, { on := 17, ground := Ground.phase }, { on := 25, ground := Ground.gcOnly Departure.appendInPlace }], guard := none }, { dst := none, op := Op.store 51 (Operand.tmp 107) (Operand.tmp 99), type := 0, pos := "ref.go:70", after := #[{ on := 18, ground := Ground.data }, { on := 10, ground := Ground.data }, { on := 17, ground := Ground.chain }, { on := 0, ground := Ground.phase }, { on := 1, ground := Ground.phase }, { on := 2, ground := Ground.phase }, { on := 3, ground := Ground.phase }, { on := 4, ground := Ground.phase }, { on := 5, ground := Ground.phase }, { on := 6, ground := Ground.phase }, { on := 7, ground := Ground.phase }, { on := 8, ground := Ground.phase }, { on := 9, ground := Ground.phase }, { on := 10, ground := Ground.phase }, { on := 11, ground := Ground.phase }, { on := 12, ground := Ground.phase }, { on := 13, ground := Ground.phase }, { on := 14, ground := Ground.phase }, { on := 15, ground := Ground.phase }, { on := 16, ground := Ground.phase }, { on := 17, ground := Ground.phase }, { on := 25, ground := Ground.gcOnly Departure.appendInPlace }], guard := none }, { dst := some 108, op := Op.binOp BinOp.add 3 (Operand.tmp 104) (Operand.const (Value.int IntKind.i64 1)) 3, type := 3, pos := "ref.go:70", after := #[{ on := 15, ground := Ground.data }, { on := 25, ground := Ground.gcOnly Departure.appendInPlace }], guard := none }, { dst := some 109, op := Op.indexAddr 26 (Operand.tmp 106) (Operand.tmp 108), type := 0, pos := "ref.go:70", after := #[{ on := 17, ground := Ground.data }, { on := 20, ground := Ground.data }, { on := 0, ground := Ground.phase }, { on := 1, ground := Ground.phase }, { on := 2, ground := Ground.phase }, { on := 3, ground := Ground.phase }, { on := 4, ground := Ground.phase }, { on := 5, ground := Ground.phase }, { on := 6, ground := Ground.phase }, { on := 7, ground := Ground.phase }, { on := 8, ground := Ground.phase }, { on := 9, ground := Ground.phase }, { on := 10, ground := Ground.phase }, { on := 11, ground := Ground.phase }, { on := 12, ground := Ground.phase }, { on := 13, ground := Ground.phase }, { on := 14, ground := Ground.phase }, { on := 15, ground := Ground.phase }, { on := 16, ground := Ground.phase }, { on := 17, ground := Ground.phase }, { on := 18, ground := Ground.phase }, { on := 19, ground := Ground.phase }, { on := 20, ground := Ground.phase }, { on := 25, ground := Ground.gcOnly Departure.appendInPlace }], guard := none }, { dst := none, op := Op.store 51 (Operand.tmp 109) (Operand.tmp 103), type := 0, pos := "ref.go:70", after := #[{ on := 21, ground := Ground.data }, { on := 14, ground := Ground.data }, { on := 19, ground := Ground.chain }, { on := 0, ground := Ground.phase }, { on := 1, ground := Ground.phase }, { on := 2, ground := Ground.phase }, { on := 3, ground := Ground.phase }, { on := 4, ground := Ground.phase }, { on := 5, ground := Ground.phase }, { on := 6, ground := Ground.phase }, { on := 7, ground := Ground.phase }, { on := 8, ground := Ground.phase }, { on := 9, ground := Ground.phase }, { on := 10, ground := Ground.phase }, { on := 11, ground := Ground.phase }, { on := 12, ground := Ground.phase }, { on := 13, ground := Ground.phase }, { on := 14, ground := Ground.phase }, { on := 15, ground := Ground.phase }, { on := 16, ground := Ground.phase }, { on := 17, ground := Ground.phase }, { on := 18, ground := Ground.phase }, { on := 19, ground := Ground.phase }, { on := 20, ground := Ground.phase }, { on := 25, ground := Ground.gcOnly Departure.appendInPlace }], guard := none }, { dst := some 110, op := Op.nilCheck (Operand.tmp 89), type := 0, pos := "ref.go:70", after := #[{ on := 0, ground := Ground.data }, { on := 0, ground := Ground.phase }, { on := 1, ground := Ground.phase }, { on := 2, ground := Ground.phase }, { on := 3, ground := Ground.phase }, { on := 4, ground := Ground.phase }, { on := 5, ground := Ground.phase }, { on := 6, ground := Ground.phase }, { on := 7, ground := Ground.phase }, { on := 8, ground := Ground.phase }, { on := 9, ground := Ground.phase }, { on := 10, ground := Ground.phase }, { on := 11, ground := Ground.phase }, { on := 12, ground := Ground.phase }, { on := 13, ground := Ground.phase }, { on := 14, ground := Ground.phase }, { on := 15, ground := Ground.phase }, { on := 16, ground := Ground.phase }, { on := 17, ground := Ground.phase }, { on := 18, ground := Ground.textOnly Departure.appendInPlace }, { on := 19, ground := Ground.textOnly Departure.appendInPlace }, { on := 20, ground := Ground.textOnly Departure.appendInPlace }, { on := 21, ground := Ground.textOnly Departure.appendInPlace }, { on := 22, ground := Ground.textOnly Departure.appendInPlace }], guard := none }, { dst := some 111, op := Op.fieldAddr 137 (Operand.tmp 110) 1, type := 0, pos := "ref.go:70", after := #[{ on := 23, ground := Ground.data }, { on := 0, ground := Ground.phase }, { on := 1, ground := Ground.phase }, { on := 2, ground := Ground.phase }, { on := 3, ground := Ground.phase }, { on := 4, ground := Ground.phase }, { on := 5, ground := Ground.phase }, { on := 6, ground := Ground.phase }, { on := 7, ground := Ground.phase }, { on := 8, ground := Ground.phase }, { on := 9, ground := Ground.phase }, { on := 10, ground := Ground.phase }, { on := 11, ground := Ground.phase }, { on := 12, ground := Ground.phase }, { on := 13, ground := Ground.phase }, { on := 14, ground := Ground.phase }, { on := 15, ground := Ground.phase }, { on := 16, ground := Ground.phase }, { on := 17, ground := Ground.phase }, { on := 18, ground := Ground.textOnly Departure.appendInPlace }, { on := 19, ground := Ground.textOnly Departure.appendInPlace }, { on := 20, ground := Ground.textOnly Departure.appendInPlace }, { on := 21, ground := Ground.textOnly Departure.appendInPlace }, { on := 22, ground := Ground.textOnly Departure.appendInPlace }], guard := none }, { dst := none, op := Op.store 26 (Operand.tmp 111) (Operand.tmp 106), type := 0, pos := "ref.go:70", after := #[{ on := 24, ground := Ground.data }, { on := 17, ground := Ground.data }, { on := 17, ground := Ground.chain }, { on := 22, ground := Ground.textOnly Departure.appendInPlace }, { on := 0, ground := Ground.phase }, { on := 1, ground := Ground.phase }, { on := 2, ground := Ground.phase }, { on := 3, ground := Ground.phase }, { on := 4, ground := Ground.phase }, { on := 5, ground := Ground.phase }, { on := 6, ground := Ground.phase }, { on := 7, ground := Ground.phase }, { on := 8, ground := Ground.phase }, { on := 9, ground := Ground.phase }, { on := 10, ground := Ground.phase }, { on := 11, ground := Ground.phase }, { on := 12, ground := Ground.phase }, { on := 13, ground := Ground.phase }, { on := 14, ground := Ground.phase }, { on := 15, ground := Ground.phase }, { on := 16, ground := Ground.phase }, { on := 17, ground := Ground.phase }, { on := 18, ground := Ground.textOnly Departure.appendInPlace }, { on := 19, ground := Ground.textOnly Departure.appendInPlace }, { on := 20, ground := Ground.textOnly Departure.appendInPlace }, { on := 21, ground := Ground.textOnly Departure.appendInPlace }, { on := 22, ground := Ground.textOnly Departure.appendInPlace }], guard := none }] true) F H (thenK (fun F' H' => ∃ (O5 : Nat → Prop), F' 0 = F 0 ∧ F' 2 = F 2 ∧ F' 10 = F 10 ∧ F' 11 = F 11 ∧ F' 15 = F 15 ∧ F' 16 = F 16 ∧ F' 17 = F 17 ∧ MyE H' O5 id H.color n (S ++ [sSet a (xNam (hE (N + 1)) e.pos) x, sSet a (xNam (hP (N + 1)) e.pos) (xPlc e.name e.pos)]) V ∧ Made O O5 H H') Q) := by
  obtain ⟨p1, p2, hm⟩ := hmy
  have bm := hm.box
  have lid := hm.lt
  have hln := outLen' hm.s
  simp only [List.length_map] at hln
  have i0 : ¬ id = H.next := by omega
  have i1 : ¬ jx = H.next := by omega
  have i2 : ¬ ja = H.next := by omega
  have i3 : ¬ jp = H.next := by omega
  have i4 : ¬ js = H.next := by omega
  have hwS : IntKind.i64.wrap ((S.length : Int) + 1) = ((S.length + 1 : Nat) : Int) := by rw [wrap_i64 (by omega) (by omega)]; omega
  have ix1 : ∀ jl, aIndexAddr Tryz.prog 26 (.msl jl (S.length + 2) 14) (.val (.int .i64 (IntKind.i64.wrap ((S.length : Int) + 1)))) = some (.ptr jl (S.length + 2) (S.length + 1) 0) := fun jl => by rw [hwS]; exact idx26 jl (S.length + 2) (S.length + 1) (by omega)
  clear hwS
  repeat' first
    | refine T_seq ?_
    | refine T_rgn ?_
    | refine T_cd ?_
    | refine T_sk ?_
    | refine T_rt ?_
    | refine T_block ?_
    | refine T_ex ?_
    | refine Kt_then ?_
    | refine Kt_block ?_
    | refine Kr_then ?_
    | refine Kr_block ?_
    | refine Kr_loop ?_
    | refine Ke_here ?_
    | refine Ke_then ?_
    | refine Ke_loop ?_
    | refine Ke_block ?_
    | refine Hid.mk ?_
    | refine T_dr (id := 16) (fun j => j = id ∨ j = jx ∨ j = ja ∨ j = jp ∨ j = js) [19, 22, 25] (.free 0 (.free 1 (.free 2 (.free 3 (.free 4 (.free 5 (.free 6 (.free 8 (.free 9 (.free 11 (.free 12 (.free 13 (.free 15 (.free 20 (.two 7 16 (.two 10 16 (.two 14 16 (.sole 16 (.sole 17 (.free 18 (.free 23 (.free 24 (.two 19 25 (.free 21 (.two 22 25 (.sole 25 .done) (.sole 22 .done))) (.sole 19 (.free 21 (.sole 22 .done))))))))) (.sole 14 (.sole 17 (.free 18 (.free 23 (.free 24 (.two 19 25 (.free 21 (.two 22 25 (.sole 25 .done) (.sole 22 .done))) (.sole 19 (.free 21 (.sole 22 .done)))))))))) (.sole 10 (.sole 14 (.sole 17 (.free 18 (.free 23 (.free 24 (.two 19 25 (.free 21 (.two 22 25 (.sole 25 .done) (.sole 22 .done))) (.sole 19 (.free 21 (.sole 22 .done))))))))))) (.sole 7 (.sole 10 (.sole 14 (.sole 17 (.free 18 (.free 23 (.free 24 (.two 19 25 (.free 21 (.two 22 25 (.sole 25 .done) (.sole 22 .done))) (.sole 19 (.free 21 (.sole 22 .done)))))))))))))))))))))))))) mix ?_
    | (refine bs_two under26 Tryz.sz51 Tryz.zero51 rfl rfl rfl rfl (by decide) (by rfl) ?_; simp (disch := first | omega | assumption | (simp; done) | fail) [*])
    | (refine eitherK.raw ?_; simp (maxSteps := 1000000) (disch := first | omega | assumption | (simp; done) | fail) [*, box_sb, LEx.len, LEx.take14, LEx.drop14, LEl.len, LEl.take4, LEl.drop4, LEl.r0, LEl.r1, LEl.r2, LEl.r3, lenNilS, idx26, wrap_nn, wk_two, aStep_eq, wk3_base, wk3_pre, wk3_three, yNot_plc, yNot_nam, LSt.len, LSt.take14])
    | (refine app_rows (lo := 0) (rows := (S.map (LSt.row H.color))) ((hm.ext ?_).s) (Nat.zero_le _) under26 Tryz.sz51 Tryz.zero51 Tryz.by51 rfl rfl (by decide) (box_sb _ _ _ _) rfl ?_ ?_; (focus ((repeat (first | exact AS.Ext.refl _ | assumption | refine AS.Ext.bump ?_ | refine AS.Ext.kill (by first | omega | (simp; omega) | simp) ?_ | refine AS.Ext.setBox (by first | omega | (simp; omega)) ?_)); done)); (focus (simp; omega)); rintro p3 H6 hout6 hab6 hel6; obtain ⟨jl, hjl, hpl, hbl⟩ := hout6.msl (by simp); simp only [List.length_append, List.length_map, List.length_cons, List.length_nil, Nat.zero_add, Nat.reduceAdd] at hpl; have hjid : ¬ jl = id := (by rcases hel6.own jl _ _ hpl with ⟨m, s1, e⟩ | h1; (intro e1; subst e1; exact hm.n1 _ _ e); (simp at h1; omega)); have hjid2 : ¬ id = jl := (fun e => hjid e.symm); have hb6 : H6.box id = some [[pi (n : Nat), p1, p2]] := (by rw [hel6.box id (by simp; omega) hm.n1]; simp [*]); have ka : H6.box ja = some [(xPlc e.name e.pos).row H.color] := (by rw [hel6.box ja (by simp; omega) (fun n s e => absurd ((hm.own _).2 (.inr (.inl ⟨_, _, e⟩))) oa)]; simp [*]); have kp : H6.box jp = some [(xNam (hP (N + 1)) e.pos).row H.color] := (by rw [hel6.box jp (by simp; omega) (fun n s e => absurd ((hm.own _).2 (.inr (.inl ⟨_, _, e⟩))) op)]; simp [*]); have ks : H6.box js = some [x.row H.color] := (by rw [hel6.box js (by simp; omega) (fun n s e => absurd ((hm.own _).2 (.inr (.inl ⟨_, _, e⟩))) os)]; simp [*]); have kx : H6.box jx = some [e.row c] := (by rw [hel6.box jx (by simp; omega) (fun n s e => absurd ((hm.own _).2 (.inr (.inl ⟨_, _, e⟩))) ox)]; simp [*]); have hc6 : H6.color = H.color := (by rw [hel6.color]; simp [*]); have a0 := st2a (n := S.length) H.color (sSet a (xNam (hE (N + 1)) e.pos) x) hbl (by simp) rfl; have a1 := fun r => st2a (H := H6.setBox id r) (j := jl) (n := S.length) H.color (sSet a (xNam (hE (N + 1)) e.pos) x) (by rw [box_setBox, if_neg hjid]; exact hbl) (by simp) rfl; have c0 := st2b (H := H6.setBox jl ((S.map (LSt.row H.color)) ++ [(sSet a (xNam (hE (N + 1)) e.pos) x).row H.color, [pi 0, pi 0, ps ⟨#[]⟩, pi 0, .nil, .nil, .nil, .nil, .nil, .nil, .nil, k8 0, pi 0, pi 0]])) (j := jl) (n := S.length) H.color (sSet a (xNam (hP (N + 1)) e.pos) (xPlc e.name e.pos)) (by rw [box_setBox, if_pos rfl]) (by simp) rfl; have c1 := fun r => st2b (H := (H6.setBox jl ((S.map (LSt.row H.color)) ++ [(sSet a (xNam (hE (N + 1)) e.pos) x).row H.color, [pi 0, pi 0, ps ⟨#[]⟩, pi 0, .nil, .nil, .nil, .nil, .nil, .nil, .nil, k8 0, pi 0, pi 0]])).setBox id r) (j := jl) (n := S.length) H.color (sSet a (xNam (hP (N + 1)) e.pos) (xPlc e.name e.pos)) (by rw [box_setBox, if_neg hjid, box_setBox, if_pos rfl]) (by simp) rfl; have c2 := fun r => st2b (H := (H6.setBox id r).setBox jl ((S.map (LSt.row H.color)) ++ [(sSet a (xNam (hE (N + 1)) e.pos) x).row H.color, [pi 0, pi 0, ps ⟨#[]⟩, pi 0, .nil, .nil, .nil, .nil, .nil, .nil, .nil, k8 0, pi 0, pi 0]])) (j := jl) (n := S.length) H.color (sSet a (xNam (hP (N + 1)) e.pos) (xPlc e.name e.pos)) (by rw [box_setBox, if_pos rfl]) (by simp) rfl)
    | refine And.intro (fun _ h1 h2 => absurd h2 h1) ?_
    | refine And.intro ?_ ?_
    | (refine callR (yNamed _ _ _) ?_; rintro _ Hz ⟨rfl, hz⟩; subst Hz)
    | (refine callR (ySet_ _ a H.color (xNam (hE (N + 1)) e.pos) x (by simp [*])) ?_; rintro _ Hz ⟨rfl, hz⟩; subst Hz)
    | (refine callR (ySet_ _ a H.color (xNam (hP (N + 1)) e.pos) (xPlc e.name e.pos) (by simp [*])) ?_; rintro _ Hz ⟨rfl, hz⟩; subst Hz)
    | refine Gs.mk (fun g => ?_) (fun g => ?_) <;> (try simp only [nm] at g) <;> try (exfalso; first | contradiction | omega)
    | refine Gr.mk (fun g => ?_) (fun g => ?_) <;> (try simp only [nm] at g) <;> try (exfalso; first | contradiction | omega)
    | (refine Run.of ?_; simp (maxSteps := 1000000) (disch := first | omega | assumption | (simp; done) | fail) [*, box_sb, LEx.len, LEx.take14, LEx.drop14, LEl.len, LEl.take4, LEl.drop4, LEl.r0, LEl.r1, LEl.r2, LEl.r3, lenNilS, idx26, wrap_nn, wk_two, aStep_eq, wk3_base, wk3_pre, wk3_three, yNot_plc, yNot_nam, LSt.len, LSt.take14])
  all_goals (refine Kt_thenK ?_; (obtain ⟨O5, k5, d5⟩ := my_put (T := [sSet a (xNam (hE (N + 1)) e.pos) x, sSet a (xNam (hP (N + 1)) e.pos) (xPlc e.name e.pos)]) hm (by (repeat (first | exact AS.Ext.refl _ | assumption | refine AS.Ext.bump ?_ | refine AS.Ext.kill (by first | omega | (simp; omega) | simp) ?_ | refine AS.Ext.setBox (by first | omega | (simp; omega)) ?_)); done) hout6 (by simp) hel6 hpl (by simp); simp only [List.map_append, List.map_cons, List.map_nil] at k5 d5; (try simp only [setBox_comm hjid2, setBox_setBox']); refine ⟨O5, ?_⟩; (repeat' apply And.intro) <;> first | rfl | (simp [*]; done) | exact k5 | exact d5 | fail))
set_option maxHeartbeats 4000000
theorem rg17 {b : Nat} {Q : Exit → AF → AS → Prop} (F : AF) (H : AS) (O : Nat → Prop) (id N n : Nat) (S : List LSt) (V : List LVr) (h0 : F 0 = .ptr id 1 0 0) (h10 : F 10 = ps (hE (N + 1))) (h11 : F 11 = ps (hP (N + 1))) (hmy : MyE H O id H.color n S V) (hV : V.length + 2 < 268435456) :
    T Tryz.prog Tryz.f59.ntmps b (.region 17 #[{ dst := some 112, op := Op.move (Operand.tmp 0), type := 135, pos := "ref.go:71", after := #[], guard := none }, { dst := some 113, op := Op.move (Operand.tmp 0), type := 135, pos := "ref.go:71", after := #[], guard := none }, { dst := some 114, op := Op.nilCheck (Operand.tmp 113), type := 0, pos := "ref.go:71", after := #[{ on := 1, ground := Ground.data }], guard := none }, { dst := some 115, op := Op.fieldAddr 137 (Operand.tmp 114) 2, type := 0, pos := "ref.go:71", after := #[{ on := 2, ground := Ground.data }], guard := none }, { dst := some 116, op := Op.load 27 (Operand.tmp 115), type := 27, pos := "ref.go:71", after := #[{ on := 3, ground := Ground.data }], guard := none }, { dst := some 117, op := Op.move (Operand.tmp 10), type := 9, pos := "ref.go:71", after := #[], guard := none }, { dst := some 118, op := Op.call { callee := Callee.value (Operand.func 63), args := #[Operand.tmp 117, Operand.const (Value.int IntKind.i64 5)], argTypes := #[9, 3] }, type := 111, pos := "ref.go:71", after := #[{ on := 5, ground := Ground.data }], guard := none }, { dst := some 119, op := Op.move (Operand.tmp 11), type := 9, pos := "ref.go:71", after := #[], guard := none }, { dst := some 120, op := Op.call { callee := Callee.value (Operand.func 63), args := #[Operand.tmp 119, Operand.const (Value.int IntKind.i64 4)], argTypes := #[9, 3] }, type := 111, pos := "ref.go:71", after := #[{ on := 7, ground := Ground.data }, { on := 6, ground := Ground.chain }], guard := none }, { dst := some 121, op := Op.buildSlice 27 2 #[(0, Operand.tmp 118), (1, Operand.tmp 120)], type := 27, pos := "ref.go:71", after := #[{ on := 6, ground := Ground.data }, { on := 8, ground := Ground.data }], guard := none }, { dst := some 122, op := Op.call { callee := Callee.builtin Builtin.append, args := #[Operand.tmp 116, Operand.tmp 121], argTypes := #[27, 27] }, type := 27, pos := "ref.go:71", after := #[{ on := 4, ground := Ground.data }, { on := 9, ground := Ground.data }, { on := 8, ground := Ground.chain }], guard := none }, { dst := some 123, op := Op.nilCheck (Operand.tmp 112), type := 0, pos := "ref.go:71", after := #[{ on := 0, ground := Ground.data }, { on := 0, ground := Ground.phase }, { on := 1, ground := Ground.phase }, { on := 2, ground := Ground.phase }, { on := 3, ground := Ground.phase }, { on := 4, ground := Ground.phase }, { on := 5, ground := Ground.phase }, { on := 6, ground := Ground.phase }, { on := 7, ground := Ground.phase }, { on := 8, ground := Ground.phase }, { on := 9, ground := Ground.phase }, { on := 10, ground := Ground.phase }], guard := none }, { dst := some 124, op := Op.fieldAddr 137 (Operand.tmp 123) 2, type := 0, pos := "ref.go:71", after := #[{ on := 11, ground := Ground.data }, { on := 0, ground := Ground.phase }, { on := 1, ground := Ground.phase }, { on := 2, ground := Ground.phase }, { on := 3, ground := Ground.phase }, { on := 4, ground := Ground.phase }, { on := 5, ground := Ground.phase }, { on := 6, ground := Ground.phase }, { on := 7, ground := Ground.phase }, { on := 8, ground := Ground.phase }, { on := 9, ground := Ground.phase }, { on := 10, ground := Ground.phase }], guard := none }, { dst := none, op := Op.store 27 (Operand.tmp 124) (Operand.tmp 122), type := 0, pos := "ref.go:71", after := #[{ on := 12, ground := Ground.data }, { on := 10, ground := Ground.data }, { on := 10, ground := Ground.chain }, { on := 0, ground := Ground.phase }, { on := 1, ground := Ground.phase }, { on := 2, ground := Ground.phase }, { on := 3, ground := Ground.phase }, { on := 4, ground := Ground.phase }, { on := 5, ground := Ground.phase }, { on := 6, ground := Ground.phase }, { on := 7, ground := Ground.phase }, { on := 8, ground := Ground.phase }, { on := 9, ground := Ground.phase }, { on := 10, ground := Ground.phase }], guard := none }] true) F H (thenK (fun F' H' => ∃ (O5 : Nat → Prop), F' 0 = F 0 ∧ F' 2 = F 2 ∧ F' 15 = F 15 ∧ F' 16 = F 16 ∧ F' 17 = F 17 ∧ MyE H' O5 id H.color n S (V ++ [⟨hE (N + 1), 5, 1⟩, ⟨hP (N + 1), 4, 1⟩]) ∧ Made O O5 H H') Q) := by
  obtain ⟨q1, q2, hm⟩ := hmy
  have bm := hm.box
  have lid := hm.lt
  have i1 : ¬ id = H.next := by omega
  have i2 : ¬ H.next = id := by omega
  repeat' first
    | refine T_seq ?_
    | refine T_rgn ?_
    | refine T_cd ?_
    | refine T_sk ?_
    | refine T_rt ?_
    | refine T_block ?_
    | refine T_ex ?_
    | refine Kt_then ?_
    | refine Kt_block ?_
    | refine Kr_then ?_
    | refine Kr_block ?_
    | refine Kr_loop ?_
    | refine Ke_here ?_
    | refine Ke_then ?_
    | refine Ke_loop ?_
    | refine Ke_block ?_
    | refine Hid.mk ?_
    | refine T_dr (id := 17) (fun j => j = id) [13] (.free 0 (.free 1 (.free 2 (.free 3 (.free 4 (.free 5 (.free 7 (.sole 6 (.sole 8 (.sole 9 (.sole 10 (.free 11 (.free 12 (.sole 13 .done)))))))))))))) mix ?_
    | (refine bs_two under27 Tryz.sz111 Tryz.zero111 rfl rfl rfl rfl (by decide) (by rfl) ?_; simp (disch := first | omega | assumption | (simp; done) | fail) [*])
    | (refine eitherK.raw ?_; simp (maxSteps := 1000000) (disch := first | omega | assumption | (simp; done) | fail) [*, box_sb, LEx.len, LEx.take14, LEx.drop14, LEl.len, LEl.take4, LEl.drop4, LEl.r0, LEl.r1, LEl.r2, LEl.r3, lenNilS, idx26, wrap_nn, wk_two, aStep_eq, wk3_base, wk3_pre, wk3_three, yNot_plc, yNot_nam, LSt.len, LSt.take14])
    | (refine app_rows (lo := 0) (rows := V.map LVr.row) ((hm.ext ?_).v) (Nat.zero_le _) under27 Tryz.sz111 Tryz.zero111 Tryz.by111 rfl rfl (by decide) (box_sb _ _ _ _) rfl ?_ ?_; (focus ((repeat (first | exact AS.Ext.refl _ | assumption | refine AS.Ext.bump ?_ | refine AS.Ext.kill (by first | omega | (simp; omega) | simp) ?_ | refine AS.Ext.setBox (by first | omega | (simp; omega)) ?_)); done)); (focus (simp; omega)); rintro p7 H7 hout7 hab7 hel7; have hb7 : H7.box id = some [[pi (n : Nat), q1, q2]] := (by rw [hel7.box id (by simp; omega) hm.n2]; simp [*]); have hp7c := hout7.cells; have hp7k := hout7.okCells; have hc7 : H7.color = H.color := (by rw [hel7.color]; simp [*]))
    | refine And.intro (fun _ h1 h2 => absurd h2 h1) ?_
    | refine And.intro ?_ ?_
    | (refine callR (yVar _ (hE (N + 1)) 5) ?_; rintro _ Hz ⟨rfl, hz⟩; subst Hz)
    | (refine callR (yVar _ (hP (N + 1)) 4) ?_; rintro _ Hz ⟨rfl, hz⟩; subst Hz)
    | refine Gs.mk (fun g => ?_) (fun g => ?_) <;> (try simp only [nm] at g) <;> try (exfalso; first | contradiction | omega)
    | refine Gr.mk (fun g => ?_) (fun g => ?_) <;> (try simp only [nm] at g) <;> try (exfalso; first | contradiction | omega)
    | (refine Run.of ?_; simp (maxSteps := 1000000) (disch := first | omega | assumption | (simp; done) | fail) [*, box_sb, LEx.len, LEx.take14, LEx.drop14, LEl.len, LEl.take4, LEl.drop4, LEl.r0, LEl.r1, LEl.r2, LEl.r3, lenNilS, idx26, wrap_nn, wk_two, aStep_eq, wk3_base, wk3_pre, wk3_three, yNot_plc, yNot_nam, LSt.len, LSt.take14])
  all_goals (refine Kt_thenK ?_; (obtain ⟨O6, k6, d6⟩ := my_hid (T := [⟨hE (N + 1), 5, 1⟩, ⟨hP (N + 1), 4, 1⟩]) hm (by (repeat (first | exact AS.Ext.refl _ | assumption | refine AS.Ext.bump ?_ | refine AS.Ext.kill (by first | omega | (simp; omega) | simp) ?_ | refine AS.Ext.setBox (by first | omega | (simp; omega)) ?_)); done) hout7 (by simp) hel7; refine ⟨O6, ?_⟩; (repeat' apply And.intro) <;> first | rfl | (simp [*]; done) | exact k6 | exact d6 | fail))
set_option maxHeartbeats 4000000
theorem rises_of (l : List LEl) (ih : ∀ e ∈ l, ∀ b ∈ e.br, RisD b) : RisD l := by
  intro hnm H O id n S V c a hc h hS hV hnn
  subst hc
  refine ACalls_open Tryz.func59 rfl (by kernel_rfl) (by simp) fun hwf hbel => ?_
  have hll := LEl.length_le_size l
  repeat' first
    | refine T_seq ?_
    | refine T_rgn ?_
    | refine T_cd ?_
    | refine T_sk ?_
    | refine T_rt ?_
    | refine T_block ?_
    | refine T_ex ?_
    | refine Kt_then ?_
    | refine Kt_block ?_
    | refine Kr_then ?_
    | refine Kr_block ?_
    | refine Ke_here ?_
    | refine Ke_then ?_
    | refine Hid.mk ?_
    | refine Gs.mk (fun g => ?_) (fun g => ?_) <;> (try simp only [nm] at g) <;> try (exfalso; first | contradiction | omega)
    | refine Gr.mk (fun g => ?_) (fun g => ?_) <;> (try simp only [nm] at g) <;> try (exfalso; first | contradiction | omega)
    | (refine Run.of ?_; simp (maxSteps := 1000000) (disch := first | omega | assumption | (simp; done) | fail) [*, box_sb, LEx.len, LEx.take14, LEx.drop14, LEl.len, LEl.take4, LEl.drop4, LEl.r0, LEl.r1, LEl.r2, LEl.r3, lenNilS, idx60, idx70, idx26, LEl.bRow, wrap_nn, wk_two, aStep_eq, wk3_base, wk3_pre, wk3_three, yNot_plc, yNot_nam, LSt.len, LSt.take14])
  refine T_lp (fun k F H' => ∃ (i : Nat) (O1 : Nat → Prop), k = l.length - i ∧ F 0 = .ptr id 1 0 0 ∧ F 2 = pi a ∧ F 15 = PV.sl H.color 4 (l.map (LEl.row H.color)) ∧ F 16 = pi l.length ∧ F 17 = pi i ∧ i ≤ l.length ∧ EdY H O id S V a n (LEl.edgL (l.take i)) H' O1) _ ⟨0, O, rfl, by simp, by simp, by simp, by simp, by simp, Nat.zero_le _, ⟨by simpa [LEl.edgL, edgesS, edgesV] using h, .refl _ _⟩⟩ ?_
  rintro k F H1 ⟨i, O1, rfl, g0, g2, g15, g16, g17, hi, hst⟩
  have hc1 := hst.color
  have hidl := hst.km.olt hst.km.oid
  have e1 : ¬ id = H1.next := by omega
  have e2 : ¬ H1.next = id := by omega
  repeat' first
    | refine T_seq ?_
    | refine T_rgn ?_
    | refine T_cd ?_
    | refine T_sk ?_
    | refine T_rt ?_
    | refine T_block ?_
    | refine T_ex ?_
    | refine Kt_then ?_
    | refine Kt_block ?_
    | refine Kr_then ?_
    | refine Kr_block ?_
    | refine Kr_loop ?_
    | refine Ke_here ?_
    | refine Ke_then ?_
    | refine Ke_loop ?_
    | refine Ke_block ?_
    | refine Hid.mk ?_
    | refine Gs.mk (fun g => ?_) (fun g => ?_) <;> (try simp only [nm] at g) <;> try (exfalso; first | contradiction | omega)
    | refine Gr.mk (fun g => ?_) (fun g => ?_) <;> (try simp only [nm] at g) <;> try (exfalso; first | contradiction | omega)
    | (refine Run.of ?_; simp (maxSteps := 1000000) (disch := first | omega | assumption | (simp; done) | fail) [*, box_sb, LEx.len, LEx.take14, LEx.drop14, LEl.len, LEl.take4, LEl.drop4, LEl.r0, LEl.r1, LEl.r2, LEl.r3, lenNilS, idx60, idx70, idx26, LEl.bRow, wrap_nn, wk_two, aStep_eq, wk3_base, wk3_pre, wk3_three, yNot_plc, yNot_nam, LSt.len, LSt.take14])
  all_goals first
    | ((first | refine Kx.mk ?_ | refine Kt.mk ?_); refine owesO_none (by first | exact .inl rfl | exact .inr rfl) rfl ⟨rfl, O1, ?_⟩; have hii : i = l.length := (by omega); subst hii; rw [List.take_length] at hst; exact hst)
    | skip
  have hst0 := size_nth (l := l) (i := i) (by assumption)
  have htk := sizeL_take (l := l) (i := i) (by assumption)
  rw [LEl.size_eq] at htk
  have hbl := LEl.lengthB_le (nth l (i : Int)).br
  refine T_lp (fun k F H' => ∃ (j : Nat) (O3 : Nat → Prop), k = (nth l (i : Int)).br.length - j ∧ F 0 = .ptr id 1 0 0 ∧ F 2 = pi a ∧ F 15 = PV.sl H.color 4 (l.map (LEl.row H.color)) ∧ F 16 = pi l.length ∧ F 17 = pi i ∧ F 7 = .ptr H1.next 1 0 0 ∧ F 22 = PV.sl H.color 1 ((nth l (i : Int)).br.map (LEl.bRow H.color)) ∧ F 23 = pi (nth l (i : Int)).br.length ∧ F 24 = pi j ∧ j ≤ (nth l (i : Int)).br.length ∧ EdY H O id S V a n (LEl.edgL (l.take i) ++ (if (nth l (i : Int)).op = 5 then LEl.edgB ((nth l (i : Int)).br.take j) else [])) H' O3 ∧ Off O3 H' H1.next [(nth l (i : Int)).row H.color]) _ ⟨0, O1, rfl, ?_⟩ ?_
  · (repeat' apply And.intro) <;> first | omega | (simp [*]; done) | (exact ((by simpa [LEl.edgB] using hst : EdY H O id S V a n (LEl.edgL (l.take i) ++ (if (nth l (i : Int)).op = 5 then LEl.edgB ((nth l (i : Int)).br.take 0) else [])) H1 O1)).ext (by (repeat (first | exact AS.Ext.refl _ | assumption | refine AS.Ext.bump ?_ | refine AS.Ext.kill (by first | omega | (simp; omega) | simp) ?_ | refine AS.Ext.setBox (by first | omega | (simp; omega)) ?_)); done)) | (exact ⟨by simp, by simp, fun ho => by have := hst.km.olt ho; omega⟩) | fail
  rintro k F H4 ⟨j, O3, rfl, g0, g2, g15, g16, g17, g7, g22, g23, g24, hj, hst3, fx⟩
  have hc4 := hst3.color
  have bx4 := fx.box
  have lx4 := fx.lt
  have hidl4 := hst3.km.olt hst3.km.oid
  have hlen3 : (LEl.edgL (l.take i) ++ (if (nth l (i : Int)).op = 5 then LEl.edgB ((nth l (i : Int)).br.take j) else [])).length ≤ LEl.sizeL (l.take i) + LEl.sizeB ((nth l (i : Int)).br.take j) := by
    rw [List.length_append]
    refine Nat.add_le_add (LEl.edgL_size _) ?_
    split
    · exact LEl.edgB_size _
    · simp
  have hbt : LEl.sizeB ((nth l (i : Int)).br.take j) ≤ LEl.sizeB (nth l (i : Int)).br := by
    have e : LEl.sizeB (nth l (i : Int)).br = LEl.sizeB ((nth l (i : Int)).br.take j) + LEl.sizeB ((nth l (i : Int)).br.drop j) := by rw [← LEl.sizeB_append, List.take_append_drop]
    omega
  have hmk := hst3.km
  obtain ⟨p1, p2, hm⟩ := hmk
  obtain ⟨N, hN⟩ : ∃ N, N = n + (LEl.edgL (l.take i) ++ (if (nth l (i : Int)).op = 5 then LEl.edgB ((nth l (i : Int)).br.take j) else [])).length := ⟨_, rfl⟩
  obtain ⟨S3, hS3⟩ : ∃ S3 : List LSt, S3 = S ++ edgesS a n (LEl.edgL (l.take i) ++ (if (nth l (i : Int)).op = 5 then LEl.edgB ((nth l (i : Int)).br.take j) else [])) := ⟨_, rfl⟩
  obtain ⟨V3, hV3⟩ : ∃ V3 : List LVr, V3 = V ++ edgesV n (LEl.edgL (l.take i) ++ (if (nth l (i : Int)).op = 5 then LEl.edgB ((nth l (i : Int)).br.take j) else [])) := ⟨_, rfl⟩
  have hN2 : N < 268435456 := by have := htk; omega
  have hS4 : S3.length + 2 < 268435456 := by rw [hS3]; simp only [List.length_append, edgesS_length] at hlen3 ⊢; omega
  have hV4 : V3.length + 2 < 268435456 := by rw [hV3]; simp only [List.length_append, edgesV_length] at hlen3 ⊢; omega
  rw [← hN, ← hS3, ← hV3] at hm
  have iN := Is.mk hN
  have iS := Is.mk hS3
  have iV := Is.mk hV3
  clear hN hS3 hV3
  have bm := hm.box
  have hw : IntKind.i64.wrap ((N : Int) + 1) = ((N + 1 : Nat) : Int) := by rw [wrap_i64 (by omega) (by omega)]; omega
  have hln := outLen' hm.s
  simp only [List.length_map] at hln
  have hnmx := nm_nth hnm (by assumption : i < l.length)
  have i1 : ¬ id = H4.next := by omega
  have i2 : ¬ H4.next = id := by omega
  have i3 : ¬ H1.next = H4.next := by omega
  have i4 : ¬ id = H4.next + 1 := by omega
  have i5 : ¬ H1.next = H4.next + 1 := by omega
  repeat' first
    | refine T_seq ?_
    | refine T_rgn ?_
    | refine T_cd ?_
    | refine T_sk ?_
    | refine T_rt ?_
    | refine T_block ?_
    | refine T_ex ?_
    | refine Kt_then ?_
    | refine Kt_block ?_
    | refine Kr_then ?_
    | refine Kr_block ?_
    | refine Kr_loop ?_
    | refine Ke_here ?_
    | refine Ke_then ?_
    | refine Ke_loop ?_
    | refine Ke_block ?_
    | refine Hid.mk ?_
    | refine T_dr (id := 11) (fun j => j = id ∨ j = H1.next) [] (.free 0 (.free 1 (.free 2 (.free 3 (.free 5 (.free 6 (.free 7 (.free 8 (.sole 4 (.sole 9 (.free 10 (.free 11 .done)))))))))))) mix ?_
    | refine And.intro (fun _ h1 h2 => absurd h2 h1) ?_
    | (refine callR (ih (nth l (i : Int)) (mem_nth (by assumption)) (nth (nth l (i : Int)).br (j : Int)) (mem_nth (by assumption)) (nmB_mem (nm_nth hnm (by assumption)).2 (mem_nth (by assumption))) _ O3 id (n + (LEl.edgL (l.take i) ++ (if (nth l (i : Int)).op = 5 then LEl.edgB ((nth l (i : Int)).br.take j) else [])).length) (S ++ edgesS a n (LEl.edgL (l.take i) ++ (if (nth l (i : Int)).op = 5 then LEl.edgB ((nth l (i : Int)).br.take j) else []))) (V ++ edgesV n (LEl.edgL (l.take i) ++ (if (nth l (i : Int)).op = 5 then LEl.edgB ((nth l (i : Int)).br.take j) else []))) H.color a (by simp [*]) hst3.km ?_ ?_ ?_) ?_; (focus (have := sizeB_take (l := (nth l (i : Int)).br) (i := j) (by assumption); simp only [List.length_append, edgesS_length] at *; omega)); (focus (have := sizeB_take (l := (nth l (i : Int)).br) (i := j) (by assumption); simp only [List.length_append, edgesV_length] at *; omega)); (focus (have := sizeB_take (l := (nth l (i : Int)).br) (i := j) (by assumption); omega)); rintro _ H5 ⟨rfl, O5, hst5⟩; have hst6 := hst3.step hst5.km hst5.md; have fx5 := fx.made hst5.md)
    | (refine eitherK.raw ?_; simp (maxSteps := 1000000) (disch := first | omega | assumption | (simp; done) | fail) [*, box_sb, LEx.len, LEx.take14, LEx.drop14, LEl.len, LEl.take4, LEl.drop4, LEl.r0, LEl.r1, LEl.r2, LEl.r3, lenNilS, idx60, idx70, idx26, LEl.bRow, wrap_nn, wk_two, aStep_eq, wk3_base, wk3_pre, wk3_three, yNot_plc, yNot_nam, LSt.len, LSt.take14])
    | refine And.intro ?_ ?_
    | (refine callR (yHidden _ 69 (N + 1) (by omega)) ?_; rintro _ Hz ⟨rfl, hz⟩; subst Hz)
    | (refine callR (yHidden _ 80 (N + 1) (by omega)) ?_; rintro _ Hz ⟨rfl, hz⟩; subst Hz)
    | refine Gs.mk (fun g => ?_) (fun g => ?_) <;> (try simp only [nm] at g) <;> try (exfalso; first | contradiction | omega)
    | refine Gr.mk (fun g => ?_) (fun g => ?_) <;> (try simp only [nm] at g) <;> try (exfalso; first | contradiction | omega)
    | (refine Run.of ?_; simp (maxSteps := 1000000) (disch := first | omega | assumption | (simp; done) | fail) [*, box_sb, LEx.len, LEx.take14, LEx.drop14, LEl.len, LEl.take4, LEl.drop4, LEl.r0, LEl.r1, LEl.r2, LEl.r3, lenNilS, idx60, idx70, idx26, LEl.bRow, wrap_nn, wk_two, aStep_eq, wk3_base, wk3_pre, wk3_three, yNot_plc, yNot_nam, LSt.len, LSt.take14])
  all_goals first
    | (refine Kt_loop ⟨_, ?_, j + 1, O5, rfl, ?_⟩ <;> (repeat' apply And.intro) <;> first | omega | (simp [*]; done) | (simp (disch := first | omega | fail) [*, wrap_i64]; done) | (rw [if_pos (by assumption)] at hst6 ⊢; rw [edgB_take (by assumption), ← List.append_assoc]; exact hst6) | (exact fx5) | fail)
    | (refine Kt_loop ⟨_, ?_, j + 1, O3, rfl, ?_⟩ <;> (repeat' apply And.intro) <;> first | omega | (simp [*]; done) | (simp (disch := first | omega | fail) [*, wrap_i64]; done) | (rw [if_neg (by assumption)] at hst3 ⊢; exact hst3) | (exact fx) | fail)
    | (have hjj : j = (nth l (i : Int)).br.length := (by omega); refine Kt_loop ⟨_, ?_, i + 1, O3, rfl, ?_⟩ <;> (repeat' apply And.intro) <;> first | omega | (simp [*]; done) | (simp (disch := first | omega | fail) [*, wrap_i64]; done) | (rw [edg_take (by assumption), LEl.edg_eq, if_neg (by omega)]; rw [hjj, List.take_length] at hst3; exact hst3) | fail)
    | skip
  · have hmc : My (H4.setBox id [[pi ((N : Int) + 1), p1, p2]]) O3 id H.color (N + 1) S3 V3 p1 p2 := by simpa using hm.cnt (N + 1)
    have hmd : Made O3 O3 H4 (H4.setBox id [[pi ((N : Int) + 1), p1, p2]]) := hm.cntMade _
    refine T_rj 12 _ (rg12 _ _ H1.next N H.color (nth l (i : Int)) (by simp [*]) (by first | (simp [*]; done) | (simp [*]; rfl)) (by simp [*]) (by simp; omega) hnmx.1) (Mm.mk ?_)
    rintro F2 M2 ⟨ja, jp, k0, k2, k7, k10, k11, k15, k16, k17, q12, q13, ha1, hp1, ha2, hp2, hap, ba, bp, hx2⟩
    have q0 : F2 0 = .ptr id 1 0 0 := by
      rw [k0]; first | (simp [*]; done) | (simp [*]; rfl) | fail
    have q2 : F2 2 = pi a := by
      rw [k2]; first | (simp [*]; done) | (simp [*]; rfl) | fail
    have q7 : F2 7 = .ptr H1.next 1 0 0 := by
      rw [k7]; first | (simp [*]; done) | (simp [*]; rfl) | fail
    have q10 : F2 10 = ps (hE (N + 1)) := by
      rw [k10]; first | (simp [*]; done) | (simp [*]; rfl) | fail
    have q11 : F2 11 = ps (hP (N + 1)) := by
      rw [k11]; first | (simp [*]; done) | (simp [*]; rfl) | fail
    have q15 : F2 15 = PV.sl H.color 4 (l.map (LEl.row H.color)) := by
      rw [k15]; first | (simp [*]; done) | (simp [*]; rfl) | fail
    have q16 : F2 16 = pi l.length := by
      rw [k16]; first | (simp [*]; done) | (simp [*]; rfl) | fail
    have q17 : F2 17 = pi i := by
      rw [k17]; first | (simp [*]; done) | (simp [*]; rfl) | fail
    clear k0 k2 k7 k10 k11 k15 k16 k17
    have hcn2 : M2.color = H.color := by have := hx2.color; simpa [hc4] using this
    have hnn2 : H4.next ≤ M2.next := by have := hx2.next; simpa using this
    simp only [setBox_color, hc4, next_setBox] at ba bp ha1 hp1
    have bx2 : M2.box H1.next = some [(nth l (i : Int)).row H.color] := by rw [hx2.box H1.next (by simp; omega)]; simp [*]
    refine T_seq ?_
    refine T_rj 13 _ (rg13 _ _ H1.next ja jp N H.color (nth l (i : Int)) q7 q12 q13 bx2 (by rw [hcn2]; exact ba) (by rw [hcn2]; exact bp) (by omega) ha2 hp2) (Mm.mk ?_)
    rintro F3 M3 ⟨js, k0, k2, k7, k10, k11, k15, k16, k17, k12, k13, q14, hj1, hj2, bs, hx3⟩
    have r0 : F3 0 = .ptr id 1 0 0 := k0.trans q0
    have r2 : F3 2 = pi a := k2.trans q2
    have r7 : F3 7 = .ptr H1.next 1 0 0 := k7.trans q7
    have r10 : F3 10 = ps (hE (N + 1)) := k10.trans q10
    have r11 : F3 11 = ps (hP (N + 1)) := k11.trans q11
    have r15 : F3 15 = PV.sl H.color 4 (l.map (LEl.row H.color)) := k15.trans q15
    have r16 : F3 16 = pi l.length := k16.trans q16
    have r17 : F3 17 = pi i := k17.trans q17
    have r12 : F3 12 = .ptr ja 1 0 0 := k12.trans q12
    have r13 : F3 13 = .ptr jp 1 0 0 := k13.trans q13
    clear k0 k2 k7 k10 k11 k15 k16 k17 k12 k13 q0 q2 q7 q10 q11 q15 q16 q17 q12 q13
    have hcn3 : M3.color = H.color := by rw [hx3.color, hcn2]
    have hnn3 : M2.next ≤ M3.next := hx3.next
    rw [hcn2] at bs
    have bx3 : M3.box H1.next = some [(nth l (i : Int)).row H.color] := by rw [hx3.box H1.next (by omega)]; exact bx2
    have ba3 : M3.box ja = some [(xPlc (nth l (i : Int)).name (nth l (i : Int)).pos).row H.color] := by rw [hx3.box ja ha2]; exact ba
    have bp3 : M3.box jp = some [(xNam (hP (N + 1)) (nth l (i : Int)).pos).row H.color] := by rw [hx3.box jp hp2]; exact bp
    have hx13 := hx2.trans hx3
    repeat' first
      | refine T_seq ?_
      | refine T_rgn ?_
      | refine T_cd ?_
      | refine T_sk ?_
      | refine T_rt ?_
      | refine T_block ?_
      | refine T_ex ?_
      | refine Kt_then ?_
      | refine Kt_block ?_
      | refine Kr_then ?_
      | refine Kr_block ?_
      | refine Kr_loop ?_
      | refine Ke_here ?_
      | refine Ke_then ?_
      | refine Ke_loop ?_
      | refine Ke_block ?_
      | refine Hid.mk ?_
      | refine Gs.mk (fun g => ?_) (fun g => ?_) <;> (try simp only [nm] at g) <;> try (exfalso; first | contradiction | omega)
      | refine Gr.mk (fun g => ?_) (fun g => ?_) <;> (try simp only [nm] at g) <;> try (exfalso; first | contradiction | omega)
      | (refine Run.of ?_; simp (maxSteps := 1000000) (disch := first | omega | assumption | (simp; done) | fail) [*, box_sb, LEx.len, LEx.take14, LEx.drop14, LEl.len, LEl.take4, LEl.drop4, LEl.r0, LEl.r1, LEl.r2, LEl.r3, lenNilS, idx60, idx70, idx26, LEl.bRow, wrap_nn, wk_two, aStep_eq, wk3_base, wk3_pre, wk3_three, yNot_plc, yNot_nam, LSt.len, LSt.take14])
    refine T_rj 15 _ (rg15 _ _ H1.next ja jp js N H.color (nth l (i : Int)) (by simp [*]) (by simp [*]) (by simp [*]) bx3 (by rw [hcn3]; exact ba3) (by rw [hcn3]; exact bp3) (by omega) (by omega) (by omega) (by simp [*]) ⟨_, by rw [hcn3]; exact bs⟩ (by omega) (by omega) (by omega) hj2) (Mm.mk ?_)
    rintro F4 M4 ⟨k0, k2, k7, k10, k11, k15, k16, k17, k12, k13, k14, bs4, hx4⟩
    have s0 : F4 0 = .ptr id 1 0 0 := by rw [k0]; simp [*]
    have s2 : F4 2 = pi a := by rw [k2]; simp [*]
    have s7 : F4 7 = .ptr H1.next 1 0 0 := by rw [k7]; simp [*]
    have s10 : F4 10 = ps (hE (N + 1)) := by rw [k10]; simp [*]
    have s11 : F4 11 = ps (hP (N + 1)) := by rw [k11]; simp [*]
    have s15 : F4 15 = PV.sl H.color 4 (l.map (LEl.row H.color)) := by rw [k15]; simp [*]
    have s16 : F4 16 = pi l.length := by rw [k16]; simp [*]
    have s17 : F4 17 = pi i := by rw [k17]; simp [*]
    have s12 : F4 12 = .ptr ja 1 0 0 := by rw [k12]; simp [*]
    have s13 : F4 13 = .ptr jp 1 0 0 := by rw [k13]; simp [*]
    have s14 : F4 14 = .ptr js 1 0 0 := by rw [k14]; simp [*]
    clear k0 k2 k7 k10 k11 k15 k16 k17 k12 k13 k14
    have hcn4 : M4.color = H.color := by rw [hx4.color, hcn3]
    have hnn4 : M3.next ≤ M4.next := hx4.next
    rw [hcn3] at bs4
    have bx4' : M4.box H1.next = some [(nth l (i : Int)).row H.color] := by rw [hx4.box H1.next (by omega) (by omega)]; exact bx3
    have ba4 : M4.box ja = some [(xPlc (nth l (i : Int)).name (nth l (i : Int)).pos).row H.color] := by rw [hx4.box ja (by omega) (by omega)]; exact ba3
    have bp4 : M4.box jp = some [(xNam (hP (N + 1)) (nth l (i : Int)).pos).row H.color] := by rw [hx4.box jp (by omega) (by omega)]; exact bp3
    have hx14 := extO_ext hx13 hx4 (by simp; omega)
    refine T_seq ?_
    refine T_rj 16 _ (rg16 _ _ O3 id H1.next ja jp js N H.color (N + 1) a (nth l (i : Int)) (xTwo 6 (nth l (i : Int)).pos (xNot (xPlc (nth l (i : Int)).name (nth l (i : Int)).pos)) (xNam (hP (N + 1)) (nth l (i : Int)).pos)) S3 V3 (by simp [*]) (by simp [*]) (by simp [*]) (by simp [*]) (by simp [*]) (by simp [*]) (by simp [*]) bx4' (by rw [hcn4]; exact ba4) (by rw [hcn4]; exact bp4) (by rw [hcn4]; exact bs4) (by omega) (by omega) (by omega) (by omega) fx.off (fun ho => by have := hm.olt ho; omega) (fun ho => by have := hm.olt ho; omega) (fun ho => by have := hm.olt ho; omega) (by rw [hcn4]; exact ⟨p1, p2, hmc.ext hx14⟩) hS4) (Mm.mk ?_)
    rintro F5 M5 ⟨O5, k0, k2, k10, k11, k15, k16, k17, hk5, hd5⟩
    have t0 : F5 0 = .ptr id 1 0 0 := by rw [k0]; simp [*]
    have t2 : F5 2 = pi a := by rw [k2]; simp [*]
    have t10 : F5 10 = ps (hE (N + 1)) := by rw [k10]; simp [*]
    have t11 : F5 11 = ps (hP (N + 1)) := by rw [k11]; simp [*]
    have t15 : F5 15 = PV.sl H.color 4 (l.map (LEl.row H.color)) := by rw [k15]; simp [*]
    have t16 : F5 16 = pi l.length := by rw [k16]; simp [*]
    have t17 : F5 17 = pi i := by rw [k17]; simp [*]
    clear k0 k2 k10 k11 k15 k16 k17
    rw [hcn4] at hk5
    have hcn5 : M5.color = H.color := by rw [hd5.color, hcn4]
    refine T_rk (rg17 _ _ O5 id N (N + 1) (S3 ++ _) V3 (by simp [*]) (by simp [*]) (by simp [*]) (by rw [hcn5]; exact hk5) hV4) (fun F6 M6 hR6 => ?_)
    obtain ⟨O6, k0, k2, k15, k16, k17, hk6, hd6⟩ := hR6
    have u0 : F6 0 = .ptr id 1 0 0 := by rw [k0]; simp [*]
    have u2 : F6 2 = pi a := by rw [k2]; simp [*]
    have u15 : F6 15 = PV.sl H.color 4 (l.map (LEl.row H.color)) := by rw [k15]; simp [*]
    have u16 : F6 16 = pi l.length := by rw [k16]; simp [*]
    have u17 : F6 17 = pi i := by rw [k17]; simp [*]
    clear k0 k2 k15 k16 k17
    rw [hcn5] at hk6
    have hd46 := (hmd.extR hx14).trans (hd5.trans hd6)
    obtain ⟨hN⟩ := iN
    obtain ⟨hS3⟩ := iS
    obtain ⟨hV3⟩ := iV
    have h5 : ¬ (nth l (i : Int)).op = 5 := by omega
    rw [if_neg h5, List.append_nil] at hst3 hN hS3 hV3
    subst hN hS3 hV3
    have hst7 := hst3.step (E2 := [(nth l (i : Int))]) (by rw [hc4]; simpa [edgesS, edgeS, edgesV, edgeV, *] using hk6) hd46
    repeat' first
      | refine T_seq ?_
      | refine T_rgn ?_
      | refine T_cd ?_
      | refine T_sk ?_
      | refine T_rt ?_
      | refine T_block ?_
      | refine T_ex ?_
      | refine Kt_then ?_
      | refine Kt_block ?_
      | refine Kr_then ?_
      | refine Kr_block ?_
      | refine Kr_loop ?_
      | refine Ke_here ?_
      | refine Ke_then ?_
      | refine Ke_loop ?_
      | refine Ke_block ?_
      | refine Hid.mk ?_
      | refine Gs.mk (fun g => ?_) (fun g => ?_) <;> (try simp only [nm] at g) <;> try (exfalso; first | contradiction | omega)
      | refine Gr.mk (fun g => ?_) (fun g => ?_) <;> (try simp only [nm] at g) <;> try (exfalso; first | contradiction | omega)
      | (refine Run.of ?_; simp (maxSteps := 1000000) (disch := first | omega | assumption | (simp; done) | fail) [*, box_sb, LEx.len, LEx.take14, LEx.drop14, LEl.len, LEl.take4, LEl.drop4, LEl.r0, LEl.r1, LEl.r2, LEl.r3, lenNilS, idx60, idx70, idx26, LEl.bRow, wrap_nn, wk_two, aStep_eq, wk3_base, wk3_pre, wk3_three, yNot_plc, yNot_nam, LSt.len, LSt.take14])
    all_goals (refine Kt_loop ⟨_, ?_, i + 1, O6, rfl, ?_⟩ <;> (repeat' apply And.intro) <;> first | omega | (simp [*]; done) | (simp (disch := first | omega | fail) [*, wrap_i64]; done) | (rw [edg_take (by assumption), LEl.edg_eq, if_pos (by omega)]; exact hst7) | fail)
  · have hmc : My (H4.setBox id [[pi ((N : Int) + 1), p1, p2]]) O3 id H.color (N + 1) S3 V3 p1 p2 := by simpa using hm.cnt (N + 1)
    have hmd : Made O3 O3 H4 (H4.setBox id [[pi ((N : Int) + 1), p1, p2]]) := hm.cntMade _
    refine T_rj 12 _ (rg12 _ _ H1.next N H.color (nth l (i : Int)) (by simp [*]) (by first | (simp [*]; done) | (simp [*]; rfl)) (by simp [*]) (by simp; omega) hnmx.1) (Mm.mk ?_)
    rintro F2 M2 ⟨ja, jp, k0, k2, k7, k10, k11, k15, k16, k17, q12, q13, ha1, hp1, ha2, hp2, hap, ba, bp, hx2⟩
    have q0 : F2 0 = .ptr id 1 0 0 := by
      rw [k0]; first | (simp [*]; done) | (simp [*]; rfl) | fail
    have q2 : F2 2 = pi a := by
      rw [k2]; first | (simp [*]; done) | (simp [*]; rfl) | fail
    have q7 : F2 7 = .ptr H1.next 1 0 0 := by
      rw [k7]; first | (simp [*]; done) | (simp [*]; rfl) | fail
    have q10 : F2 10 = ps (hE (N + 1)) := by
      rw [k10]; first | (simp [*]; done) | (simp [*]; rfl) | fail
    have q11 : F2 11 = ps (hP (N + 1)) := by
      rw [k11]; first | (simp [*]; done) | (simp [*]; rfl) | fail
    have q15 : F2 15 = PV.sl H.color 4 (l.map (LEl.row H.color)) := by
      rw [k15]; first | (simp [*]; done) | (simp [*]; rfl) | fail
    have q16 : F2 16 = pi l.length := by
      rw [k16]; first | (simp [*]; done) | (simp [*]; rfl) | fail
    have q17 : F2 17 = pi i := by
      rw [k17]; first | (simp [*]; done) | (simp [*]; rfl) | fail
    clear k0 k2 k7 k10 k11 k15 k16 k17
    have hcn2 : M2.color = H.color := by have := hx2.color; simpa [hc4] using this
    have hnn2 : H4.next ≤ M2.next := by have := hx2.next; simpa using this
    simp only [setBox_color, hc4, next_setBox] at ba bp ha1 hp1
    have bx2 : M2.box H1.next = some [(nth l (i : Int)).row H.color] := by rw [hx2.box H1.next (by simp; omega)]; simp [*]
    refine T_seq ?_
    refine T_rj 13 _ (rg13 _ _ H1.next ja jp N H.color (nth l (i : Int)) q7 q12 q13 bx2 (by rw [hcn2]; exact ba) (by rw [hcn2]; exact bp) (by omega) ha2 hp2) (Mm.mk ?_)
    rintro F3 M3 ⟨js, k0, k2, k7, k10, k11, k15, k16, k17, k12, k13, q14, hj1, hj2, bs, hx3⟩
    have r0 : F3 0 = .ptr id 1 0 0 := k0.trans q0
    have r2 : F3 2 = pi a := k2.trans q2
    have r7 : F3 7 = .ptr H1.next 1 0 0 := k7.trans q7
    have r10 : F3 10 = ps (hE (N + 1)) := k10.trans q10
    have r11 : F3 11 = ps (hP (N + 1)) := k11.trans q11
    have r15 : F3 15 = PV.sl H.color 4 (l.map (LEl.row H.color)) := k15.trans q15
    have r16 : F3 16 = pi l.length := k16.trans q16
    have r17 : F3 17 = pi i := k17.trans q17
    have r12 : F3 12 = .ptr ja 1 0 0 := k12.trans q12
    have r13 : F3 13 = .ptr jp 1 0 0 := k13.trans q13
    clear k0 k2 k7 k10 k11 k15 k16 k17 k12 k13 q0 q2 q7 q10 q11 q15 q16 q17 q12 q13
    have hcn3 : M3.color = H.color := by rw [hx3.color, hcn2]
    have hnn3 : M2.next ≤ M3.next := hx3.next
    rw [hcn2] at bs
    have bx3 : M3.box H1.next = some [(nth l (i : Int)).row H.color] := by rw [hx3.box H1.next (by omega)]; exact bx2
    have ba3 : M3.box ja = some [(xPlc (nth l (i : Int)).name (nth l (i : Int)).pos).row H.color] := by rw [hx3.box ja ha2]; exact ba
    have bp3 : M3.box jp = some [(xNam (hP (N + 1)) (nth l (i : Int)).pos).row H.color] := by rw [hx3.box jp hp2]; exact bp
    have hx13 := hx2.trans hx3
    repeat' first
      | refine T_seq ?_
      | refine T_rgn ?_
      | refine T_cd ?_
      | refine T_sk ?_
      | refine T_rt ?_
      | refine T_block ?_
      | refine T_ex ?_
      | refine Kt_then ?_
      | refine Kt_block ?_
      | refine Kr_then ?_
      | refine Kr_block ?_
      | refine Kr_loop ?_
      | refine Ke_here ?_
      | refine Ke_then ?_
      | refine Ke_loop ?_
      | refine Ke_block ?_
      | refine Hid.mk ?_
      | refine Gs.mk (fun g => ?_) (fun g => ?_) <;> (try simp only [nm] at g) <;> try (exfalso; first | contradiction | omega)
      | refine Gr.mk (fun g => ?_) (fun g => ?_) <;> (try simp only [nm] at g) <;> try (exfalso; first | contradiction | omega)
      | (refine Run.of ?_; simp (maxSteps := 1000000) (disch := first | omega | assumption | (simp; done) | fail) [*, box_sb, LEx.len, LEx.take14, LEx.drop14, LEl.len, LEl.take4, LEl.drop4, LEl.r0, LEl.r1, LEl.r2, LEl.r3, lenNilS, idx60, idx70, idx26, LEl.bRow, wrap_nn, wk_two, aStep_eq, wk3_base, wk3_pre, wk3_three, yNot_plc, yNot_nam, LSt.len, LSt.take14])
    have hcn4 := hcn3
    have bx4' := bx3
    have ba4 := ba3
    have bp4 := bp3
    have bs4 := bs
    have hx14 := hx13
    have hnn4 := Nat.le_refl M3.next
    refine T_rj 16 _ (rg16 _ _ O3 id H1.next ja jp js N H.color (N + 1) a (nth l (i : Int)) (xTwo 6 (nth l (i : Int)).pos (xPlc (nth l (i : Int)).name (nth l (i : Int)).pos) (xNot (xNam (hP (N + 1)) (nth l (i : Int)).pos))) S3 V3 (by simp [*]) (by simp [*]) (by simp [*]) (by simp [*]) (by simp [*]) (by simp [*]) (by simp [*]) bx4' (by rw [hcn4]; exact ba4) (by rw [hcn4]; exact bp4) (by rw [hcn4]; exact bs4) (by omega) (by omega) (by omega) (by omega) fx.off (fun ho => by have := hm.olt ho; omega) (fun ho => by have := hm.olt ho; omega) (fun ho => by have := hm.olt ho; omega) (by rw [hcn4]; exact ⟨p1, p2, hmc.ext hx14⟩) hS4) (Mm.mk ?_)
    rintro F5 M5 ⟨O5, k0, k2, k10, k11, k15, k16, k17, hk5, hd5⟩
    have t0 : F5 0 = .ptr id 1 0 0 := by rw [k0]; simp [*]
    have t2 : F5 2 = pi a := by rw [k2]; simp [*]
    have t10 : F5 10 = ps (hE (N + 1)) := by rw [k10]; simp [*]
    have t11 : F5 11 = ps (hP (N + 1)) := by rw [k11]; simp [*]
    have t15 : F5 15 = PV.sl H.color 4 (l.map (LEl.row H.color)) := by rw [k15]; simp [*]
    have t16 : F5 16 = pi l.length := by rw [k16]; simp [*]
    have t17 : F5 17 = pi i := by rw [k17]; simp [*]
    clear k0 k2 k10 k11 k15 k16 k17
    rw [hcn4] at hk5
    have hcn5 : M5.color = H.color := by rw [hd5.color, hcn4]
    refine T_rk (rg17 _ _ O5 id N (N + 1) (S3 ++ _) V3 (by simp [*]) (by simp [*]) (by simp [*]) (by rw [hcn5]; exact hk5) hV4) (fun F6 M6 hR6 => ?_)
    obtain ⟨O6, k0, k2, k15, k16, k17, hk6, hd6⟩ := hR6
    have u0 : F6 0 = .ptr id 1 0 0 := by rw [k0]; simp [*]
    have u2 : F6 2 = pi a := by rw [k2]; simp [*]
    have u15 : F6 15 = PV.sl H.color 4 (l.map (LEl.row H.color)) := by rw [k15]; simp [*]
    have u16 : F6 16 = pi l.length := by rw [k16]; simp [*]
    have u17 : F6 17 = pi i := by rw [k17]; simp [*]
    clear k0 k2 k15 k16 k17
    rw [hcn5] at hk6
    have hd46 := (hmd.extR hx14).trans (hd5.trans hd6)
    obtain ⟨hN⟩ := iN
    obtain ⟨hS3⟩ := iS
    obtain ⟨hV3⟩ := iV
    have h5 : ¬ (nth l (i : Int)).op = 5 := by omega
    rw [if_neg h5, List.append_nil] at hst3 hN hS3 hV3
    subst hN hS3 hV3
    have hst7 := hst3.step (E2 := [(nth l (i : Int))]) (by rw [hc4]; simpa [edgesS, edgeS, edgesV, edgeV, *] using hk6) hd46
    repeat' first
      | refine T_seq ?_
      | refine T_rgn ?_
      | refine T_cd ?_
      | refine T_sk ?_
      | refine T_rt ?_
      | refine T_block ?_
      | refine T_ex ?_
      | refine Kt_then ?_
      | refine Kt_block ?_
      | refine Kr_then ?_
      | refine Kr_block ?_
      | refine Kr_loop ?_
      | refine Ke_here ?_
      | refine Ke_then ?_
      | refine Ke_loop ?_
      | refine Ke_block ?_
      | refine Hid.mk ?_
      | refine Gs.mk (fun g => ?_) (fun g => ?_) <;> (try simp only [nm] at g) <;> try (exfalso; first | contradiction | omega)
      | refine Gr.mk (fun g => ?_) (fun g => ?_) <;> (try simp only [nm] at g) <;> try (exfalso; first | contradiction | omega)
      | (refine Run.of ?_; simp (maxSteps := 1000000) (disch := first | omega | assumption | (simp; done) | fail) [*, box_sb, LEx.len, LEx.take14, LEx.drop14, LEl.len, LEl.take4, LEl.drop4, LEl.r0, LEl.r1, LEl.r2, LEl.r3, lenNilS, idx60, idx70, idx26, LEl.bRow, wrap_nn, wk_two, aStep_eq, wk3_base, wk3_pre, wk3_three, yNot_plc, yNot_nam, LSt.len, LSt.take14])
    all_goals (refine Kt_loop ⟨_, ?_, i + 1, O6, rfl, ?_⟩ <;> (repeat' apply And.intro) <;> first | omega | (simp [*]; done) | (simp (disch := first | omega | fail) [*, wrap_i64]; done) | (rw [edg_take (by assumption), LEl.edg_eq, if_pos (by omega)]; exact hst7) | fail)
mutual
theorem rid_items : ∀ (e : LEl), ∀ b ∈ e.br, RisD b
  | .mk o p nm br => rid_rows br
theorem rid_rows : ∀ (br : List (List LEl)), ∀ b ∈ br, RisD b
  | [] => by simp
  | x :: br => by
    have h1 := rises_of x (rid_list x)
    have h2 := rid_rows br
    intro b hb
    rcases List.mem_cons.1 hb with rfl | hb
    · exact h1
    · exact h2 b hb
theorem rid_list : ∀ (l : List LEl), ∀ e ∈ l, ∀ b ∈ e.br, RisD b
  | [] => by simp
  | x :: l => by
    have h1 := rid_items x
    have h2 := rid_list l
    intro e he
    rcases List.mem_cons.1 he with rfl | he
    · exact h1
    · exact h2 e he
end
theorem yRises (l : List LEl) : RisD l := rises_of l (rid_list l)
end
end Go.Abs
