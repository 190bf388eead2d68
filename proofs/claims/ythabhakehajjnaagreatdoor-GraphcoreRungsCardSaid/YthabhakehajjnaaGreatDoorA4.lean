/- Texts of ours, merged: the abstract layer, the walks over the loaded functions, the plain laws. -/
import Derived.Test.YthabhakehajjnaaGreatDoorA3
namespace Go.Abs
open Go.Proofs
set_option autoImplicit false
set_option linter.all false
set_option maxRecDepth 100000
set_option maxHeartbeats 40000000
section
set_option maxHeartbeats 4000000
attribute [local simp ↓] wanted_at hbind_some
attribute [local simp] Gs_true Gs_false gcond_Gr Gr_true Gr_false abox frame0 int_beq int_bne aload astore partOf Keeps Same splice aUn aFieldAddr aField aBin aBinV aConvert aExtract aLen aBuild aBuild.go aalloc AS.Ext.refl AS.Ext.bump AS.Ext.setBox
theorem owes_atZ {P : Program} {H H1 : AS} {fn : Func} {R : PV → AS → Prop} {l : List ResultVar} {F' : AF} {H' : AS} {e : Exit} (qs : List PV) (he : e = .normal ∨ e = .ret) (hwf : WF H1) (hn : H.next ≤ H1.next) (hl : fn.results.toList = l)
    (hext : H1.Ext H') (h : resP P F' H' l fun rs => frzVs H' rs = (qs, H') ∧ (∀ p ∈ qs, Below H1.next p) ∧ R (packed qs) H1) : Owes P fn H R e F' H' := by
  obtain ⟨rs, h1, h2, h3, h4⟩ := resP_res h
  refine ⟨he, ?_⟩
  rw [hl, h1]
  refine ⟨H1, hn, ?_, hwf, ?_, ?_⟩
  · rw [h2]; exact hext
  · rw [h2]; exact h3
  · rw [h2]; exact h4
theorem frz_nil (H : AS) : frz H (.val (.slice none 0 0)) = (.nilS, H) := rfl
theorem rCoil (H : AS) (id c : Nat) (en : Int) (r : LRd) (hb : H.box id = some [r.row c en]) (hg : r.good) : ACalls Tryz.prog 47 [.ptr id 1 0 0] H fun q H' => ∃ (o a : Int) (n : ByteArray) (r' : LRd), q = .agg [pi o, pi a, ps n, .nilS] ∧ n.size ≤ 262145 ∧ r.to r' ∧ (r'.mu < r.mu ∨ r'.mu = 0) ∧ H' = H.setBox id [r'.row c en] := by
  skip
  all_goals (refine ACalls_intro Tryz.func47 rfl (by kernel_rfl) (by simp) fun hwf hbel => ?_)
  all_goals have hid := (hwf.box _ _ hb).1
  all_goals have hid1 : ¬ id = H.next := by omega
  all_goals have hid2 : ¬ id = H.next + 1 := by omega
  all_goals have hid3 : ¬ H.next = id := by omega
  all_goals have hid4 : ¬ H.next + 1 = id := by omega
  all_goals (
    repeat' first
      | refine T_seq ?_
      | refine T_rgn ?_
      | refine T_cd ?_
      | refine T_sk ?_
      | refine T_rt ?_
      | refine T_block ?_
      | refine T_ex ?_
      | refine Kt_then ?_
      | refine Kt_block ?_
      | refine Kr_then ?_
      | refine Kr_block ?_
      | refine Ke_here ?_
      | refine Ke_then ?_
      | refine Hid.mk ?_
      | (refine callR (rHere _ id c en r (by simp [*])) ?_; rintro _ Hz ⟨⟨hx, rfl⟩, hz⟩; subst Hz)
      | (refine callR (rMarked _ id c en r (by simp [*])) ?_; rintro _ Hz ⟨mx1, m1, rfl, hmx1, hmy1, hmt1, hz⟩; subst Hz)
      | (refine callR (rItem _ id c en m1 (by simp [*]) (hmt1.good hg)) ?_; rintro _ Hz ⟨i2, it2, rfl, hio2, his2, him2, hz⟩; subst Hz)
      | refine Gs.mk (fun g => ?_) (fun g => ?_) <;> (try simp only [nm] at g) <;> try (exfalso; first | contradiction | omega)
      | refine Gr.mk (fun g => ?_) (fun g => ?_) <;> (try simp only [nm] at g) <;> try (exfalso; first | contradiction | omega)
      | (refine Run.of ?_; simp (maxSteps := 1000000) (disch := first | omega | assumption | (simp; done) | fail) [*, box_self]))
  all_goals first
    | ((first | refine Kx.mk ?_ | refine Kt.mk ?_); refine Owes.mono (k := fun q H' => q = .agg [pi (IntKind.i64.wrap (6 + mx1)), pi hx, ps it2, .nilS] ∧ H' = H.setBox id [LRd.row c en (i2)]) (fun q H' hq => ⟨_, _, _, i2, hq.1, his2, hmt1.trans hio2, by have := hmt1.mu; omega, hq.2⟩) ?_; (refine owes_atZ [.agg [pi (IntKind.i64.wrap (6 + mx1)), pi hx, ps it2, .nilS]] (l := [.cell 2 72]) (H1 := H.setBox id [LRd.row c en (i2)]) (by first | exact .inr rfl | exact .inl rfl) (wf_set hwf hb (LRd.below _ _ _ _)) (by simp) rfl ⟨by first | omega | (simp; done) | (simp; omega), fun j hj => by (simp only [next_setBox] at hj; have e1 : ¬ j = H.next := (by omega); have e2 : ¬ j = H.next + 1 := (by omega); by_cases e3 : j = id <;> simp [e3, box_setBox, e1, e2, show ¬ id = H.next by omega, show ¬ id = H.next + 1 by omega, LRd.row_mk, LTok.row, hb]), fun j hj => by simp, by simp⟩ ?_ <;> (try simp (maxDischargeDepth := 20) [resP, packed, plain1_agg, plain1_sl, aload, partOf, LRd.row_mk, LTok.row, frzVs, frzV, frzL, frz_nil, frz, *])); done)
end
end Go.Abs
namespace Go.Abs
open Go.Proofs
set_option autoImplicit false
set_option linter.all false
set_option maxRecDepth 100000
set_option maxHeartbeats 4000000
attribute [local simp ↓] wanted_at hbind_some
attribute [local simp] Gs_true Gs_false gcond_Gr Gr_true Gr_false abox frame0 int_beq int_bne aload astore partOf Keeps Same splice aUn aFieldAddr aField aBin aBinV aConvert aExtract aLen aBuild aBuild.go aalloc AS.Ext.refl AS.Ext.bump AS.Ext.setBox
namespace LRd
/-- What reading may come to, the depth aside. -/
structure tow (r r' : LRd) : Prop where
  good : r.good → r'.good
  mu : r'.mu ≤ r.mu
theorem tow.refl (r : LRd) : r.tow r := ⟨id, Nat.le_refl _⟩
theorem tow.trans {a b c : LRd} (h : a.tow b) (h' : b.tow c) : a.tow c := ⟨fun g => h'.good (h.good g), Nat.le_trans h'.mu h.mu⟩
theorem to.w {a b : LRd} (h : a.to b) : a.tow b := ⟨h.good, h.mu⟩
def setDeep (d : Int) (r : LRd) : LRd := { r with deep := d }
theorem tow_deep (d : Int) (r : LRd) : r.tow (r.setDeep d) := ⟨id, Nat.le_refl _⟩
@[simp] theorem mu_deep (d : Int) (r : LRd) : (r.setDeep d).mu = r.mu := rfl
theorem good_deep (d : Int) (r : LRd) (h : r.good) : (r.setDeep d).good := h
end LRd
namespace LEl
mutual
/-- Names are not long. -/
def nm : LEl → Prop
  | mk _ _ n b => n.size ≤ 262145 ∧ nmB b
def nmB : List (List LEl) → Prop
  | [] => True
  | b :: bs => nmL b ∧ nmB bs
def nmL : List LEl → Prop
  | [] => True
  | e :: es => nm e ∧ nmL es
end
theorem nmL_append (a b : List LEl) : nmL (a ++ b) ↔ nmL a ∧ nmL b := by
  induction a with
  | nil => simp [nmL]
  | cons x xs ih => simp [nmL, ih, and_assoc]
theorem nmB_append (a b : List (List LEl)) : nmB (a ++ b) ↔ nmB a ∧ nmB b := by
  induction a with
  | nil => simp [nmB]
  | cons x xs ih => simp [nmB, ih, and_assoc]
mutual
theorem row_below (n c : Nat) : ∀ e : LEl, ∀ p ∈ e.row c, Below n p
  | mk o a nm b => by
    have h := rowsB_below n c b
    rw [row]
    intro p hp
    simp only [List.mem_cons, List.not_mem_nil, or_false] at hp
    rcases hp with rfl | rfl | rfl | rfl
    · exact .val _
    · exact .val _
    · exact .val _
    · rw [below_sl]; exact h
theorem rowsB_below (n c : Nat) : ∀ b : List (List LEl), ∀ r ∈ rowsB c b, ∀ p ∈ r, Below n p
  | [] => by simp [rowsB]
  | b :: bs => by
    have h1 := rowsE_below n c b
    have h2 := rowsB_below n c bs
    rw [rowsB]
    intro r hr p hp
    rcases List.mem_cons.1 hr with rfl | hr
    · rw [List.mem_singleton] at hp; subst hp; rw [below_sl]; exact h1
    · exact h2 r hr p hp
theorem rowsE_below (n c : Nat) : ∀ l : List LEl, ∀ r ∈ rowsE c l, ∀ p ∈ r, Below n p
  | [] => by simp [rowsE]
  | e :: es => by
    have h1 := row_below n c e
    have h2 := rowsE_below n c es
    rw [rowsE]
    intro r hr p hp
    rcases List.mem_cons.1 hr with rfl | hr
    · exact h1 p hp
    · exact h2 r hr p hp
end
theorem rows_below (n c : Nat) (l : List LEl) : ∀ r ∈ l.map (row c), ∀ p ∈ r, Below n p := by rw [← rowsE_eq]; exact rowsE_below n c l
end LEl
/-- A list with one row, of which a list of one's own is frozen. -/
theorem bs_one {P : Program} {H H1 : AS} {t elem : TypeId} {sz : Nat} {zs : List PV} {x : PV} {row' : List PV} {y : Option (PV × AS)} {k : PV → AS → Prop} (hu : P.underlying t = some (.slice elem)) (hs : szOf P elem = some sz) (hz : zeroOf P elem = some zs)
    (hok : x.okCells = true) (hlen : x.cells.length = sz) (hsz : sz ≤ 2 ^ 24) (hf : frzR H [x.cells] = ([row'], H1)) (h : k (.msl H1.next 1 sz) ((H1.setBox H1.next [row']).bump 1)) : @eitherK (abuildSlice P H t 1 [(0, x)]) y ⟨k⟩ := by
  have e : abuildSlice P H t 1 [(0, x)] = some (.msl H1.next 1 sz, (H1.setBox H1.next [row']).bump 1) := by
    simp only [abuildSlice, hu, hs, hz]
    rw [if_pos ⟨rfl, by omega, by simp [hok, hlen]⟩]
    simp [hf]
  rw [e]; exact eitherK.fz h
theorem under60 : Tryz.prog.underlying 60 = some (.slice 72) := by kernel_rfl
theorem under70 : Tryz.prog.underlying 70 = some (.slice 60) := by kernel_rfl
theorem under55 : Tryz.prog.underlying 55 = some (.slice 62) := by kernel_rfl
theorem under42 : Tryz.prog.underlying 42 = some (.slice 121) := by kernel_rfl
/-- Other memory than one box is as it was. -/
theorem ext_bs {H H' : AS} {rows : List (List PV)} (h : H.Ext H') : H.Ext ((H'.setBox H'.next rows).bump 1) := .bump (.setBox h.next h)
theorem ext_at {H H' : AS} {j : Nat} {rows : List (List PV)} (h : H.Ext H') (hj : H.next ≤ j) : H.Ext (H'.setBox j rows) := .setBox hj h
theorem ext_sw {H H1 H' : AS} {id : Nat} {a b : List (List PV)} (hid : id < H.next) (h1 : (H.setBox id a).Ext H1) (h : (H1.setBox id b).Ext H') : (H.setBox id b).Ext H' := (ext_set (b := b) hid h1).trans h
structure Jn2 (P : Program) (n b : Nat) (z : Code) (Q : Exit → AF → AS → Prop) (R : AF → AS → Prop) : Prop where
  run : ∀ F H, R F H → T P n b z F H Q
theorem T_jr2 {P : Program} {n b : Nat} {F : AF} {H : AS} {Q : Exit → AF → AS → Prop} (id : Nat) (R : AF → AS → Prop) {ops : Array Oper} {d : Bool} {c : Operand} {x y z : Code} (h : T P n b (.seq (.region id ops d) (.cond c x y)) F H (thenK R Q)) (h' : Jn2 P n b z Q R) : T P n b (.seq (.seq (.region id ops d) (.cond c x y)) z) F H Q := T_mid R h h'.run
structure Jn3 (P : Program) (n b : Nat) (z : Code) (Q : Exit → AF → AS → Prop) (R : AF → AS → Prop) : Prop where
  run : ∀ F H, R F H → T P n b z F H Q
theorem T_jr3 {P : Program} {n b : Nat} {F : AF} {H : AS} {Q : Exit → AF → AS → Prop} (id : Nat) (R : AF → AS → Prop) {ops : Array Oper} {d : Bool} {c : Operand} {x y z : Code} (h : T P n b (.seq (.region id ops d) (.cond c x y)) F H (thenK R Q)) (h' : Jn3 P n b z Q R) : T P n b (.seq (.seq (.region id ops d) (.cond c x y)) z) F H Q := T_mid R h h'.run
structure Jn4 (P : Program) (n b : Nat) (z : Code) (Q : Exit → AF → AS → Prop) (R : AF → AS → Prop) : Prop where
  run : ∀ F H, R F H → T P n b z F H Q
theorem T_jr4 {P : Program} {n b : Nat} {F : AF} {H : AS} {Q : Exit → AF → AS → Prop} (id : Nat) (R : AF → AS → Prop) {ops : Array Oper} {d : Bool} {c : Operand} {x y z : Code} (h : T P n b (.seq (.region id ops d) (.cond c x y)) F H (thenK R Q)) (h' : Jn4 P n b z Q R) : T P n b (.seq (.seq (.region id ops d) (.cond c x y)) z) F H Q := T_mid R h h'.run
structure Mm (P : Program) (n b : Nat) (z : Code) (Q : Exit → AF → AS → Prop) (R : AF → AS → Prop) : Prop where
  run : ∀ F H, R F H → T P n b z F H Q
/-- A rest told on its own, behind a region. -/
theorem T_mr {P : Program} {n b : Nat} {F : AF} {H : AS} {Q : Exit → AF → AS → Prop} (id : Nat) (R : AF → AS → Prop) {ops : Array Oper} {d : Bool} {z : Code} (h : T P n b (.region id ops d) F H (thenK R Q)) (h' : Mm P n b z Q R) : T P n b (.seq (.region id ops d) z) F H Q := T_mid R h h'.run
theorem ext_base {H : AS} {id : Nat} {r : List (List PV)} (hb : H.box id = some r) : (H.setBox id r).Ext H := by rw [setBox_same hb]; exact .refl _
theorem app_one {P : Program} {lo : Nat} {H : AS} {p : PV} {sz : Nat} {rows : List (List PV)} (h : OutIs lo H p sz rows) (hlo : lo ≤ H.next) {sT elem : TypeId} {zs : List PV} {by_ : Nat}
    (h1 : P.underlying sT = some (.slice elem)) (hsz : szOf P elem = some sz) (hz : zeroOf P elem = some zs) (hb : bytesOf P elem = some by_)
    (hz1 : zs.length = sz) (hz2 : zs.all PV.atomic = true) (hby : 0 < by_) {j : Nat} {row' : List PV} (hj : H.box j = some [row']) (hfr : ∀ p ∈ row', Frozen p)
    (hsize : (rows.length + 1) * by_ ≤ 2 ^ 47) {k : PV → AS → Prop} (hk : ∀ p' H', OutIs lo H' p' sz (rows ++ [row']) → Above lo H H' → Elsewhere p p' H H' → Run (k p' H')) : @appendK P H sT sT p (.msl j 1 sz) ⟨k⟩ :=
  appR (aappend_outF h hlo h1 h1 hsz hz hb hz1 hz2 hby (ys := [row']) (by simp [srcOf, hj]) (by intro r hr; rw [List.mem_singleton] at hr; subst hr; exact hfr) (.inl hsize) hk)
/-- Memory that is as it was, one box aside. -/
structure ExtO (id : Nat) (H H' : AS) : Prop where
  next : H.next ≤ H'.next
  box : ∀ j, j < H.next → j ≠ id → H'.box j = H.box j
  mp : ∀ j, j < H.next → H'.mp j = H.mp j
  color : H'.color = H.color
theorem ExtO.refl (id : Nat) (H : AS) : ExtO id H H := ⟨Nat.le_refl _, fun _ _ _ => rfl, fun _ _ => rfl, rfl⟩
theorem ExtO.of {id : Nat} {H H' : AS} {a : List (List PV)} (h : (H.setBox id a).Ext H') : ExtO id H H' :=
  ⟨by have := h.next; simpa using this, fun j hj e => by have := h.box j (by simpa using hj); simpa [e] using this, fun j hj => by have := h.mp j (by simpa using hj); simpa using this, by have := h.color; simpa using this⟩
theorem ExtO.ext {id : Nat} {H H' : AS} (h : H.Ext H') : ExtO id H H' := ⟨h.next, fun j hj _ => h.box j hj, h.mp, h.color⟩
theorem ExtO.trans {id : Nat} {H H1 H' : AS} (h : ExtO id H H1) (h' : ExtO id H1 H') : ExtO id H H' :=
  ⟨Nat.le_trans h.next h'.next, fun j hj e => by rw [h'.box j (Nat.lt_of_lt_of_le hj h.next) e, h.box j hj e], fun j hj => by rw [h'.mp j (Nat.lt_of_lt_of_le hj h.next), h.mp j hj], by rw [h'.color, h.color]⟩
theorem ExtO.bump {id m : Nat} {H H' : AS} (h : ExtO id H H') : ExtO id H (H'.bump m) := ⟨by have := h.next; simp; omega, fun j hj e => by simpa using h.box j hj e, fun j hj => by simpa using h.mp j hj, by simpa using h.color⟩
theorem ExtO.setBox {id j : Nat} {H H' : AS} {r : List (List PV)} (hj : H.next ≤ j) (h : ExtO id H H') : ExtO id H (H'.setBox j r) :=
  ⟨by simpa using h.next, fun i hi e => by have := h.box i hi e; simpa [show ¬ i = j by omega] using this, fun i hi => by simpa using h.mp i hi, by simpa using h.color⟩
theorem ExtO.setId {id : Nat} {H H' : AS} {r : List (List PV)} (h : ExtO id H H') : ExtO id H (H'.setBox id r) :=
  ⟨by simpa using h.next, fun i hi e => by have := h.box i hi e; simpa [e] using this, fun i hi => by simpa using h.mp i hi, by simpa using h.color⟩
theorem ExtO.to {id : Nat} {H H' : AS} {b : List (List PV)} (h : ExtO id H H') (hid : id < H.next) (hb : H'.box id = some b) : (H.setBox id b).Ext H' :=
  ⟨by simpa using h.next, fun j hj => by by_cases e : j = id; (subst e; simp [hb]); (have := h.box j (by simpa using hj) e; simpa [e] using this), fun j hj => by have := h.mp j (by simpa using hj); simpa using this, by simpa using h.color⟩
theorem OutIs.at_lt {lo : Nat} {H : AS} {p : PV} {sz : Nat} {rows : List (List PV)} (h : OutIs lo H p sz rows) {j n s : Nat} (e : p = .msl j n s) : lo ≤ j ∧ j < H.next := by
  rcases h with ⟨_, h⟩ | ⟨id, h1, h2, h3, _⟩
  · rw [h] at e; cases e
  · rw [h3] at e; cases e; exact ⟨h1, h2⟩
/-- A list with one row that holds a list of one's own, which is frozen. -/
theorem bs_own {P : Program} {H : AS} {t elem : TypeId} {sz lo sz2 : Nat} {zs : List PV} {pre post : List PV} {p : PV} {rows : List (List PV)} {y : Option (PV × AS)} {k : PV → AS → Prop} (hu : P.underlying t = some (.slice elem)) (hs : szOf P elem = some sz) (hz : zeroOf P elem = some zs)
    (ho : OutIs lo H p sz2 rows) (hpre : ∀ x ∈ pre, Frozen x) (hpost : ∀ x ∈ post, Frozen x) (hok : (PV.agg (pre ++ p :: post)).okCells = true) (hlen : (PV.agg (pre ++ p :: post)).cells.length = sz) (hsz : sz ≤ 2 ^ 24)
    (h : ∀ HF, HF.next = H.next → HF.color = H.color → (∀ j, (∀ n s, p ≠ .msl j n s) → HF.box j = H.box j) → (∀ j, HF.mp j = H.mp j) → Above lo H HF → Run (k (.msl HF.next 1 sz) ((HF.setBox HF.next [pre ++ PV.sl H.color sz2 rows :: post]).bump 1))) :
    @eitherK (abuildSlice P H t 1 [(0, .agg (pre ++ p :: post))]) y ⟨k⟩ := by
  obtain ⟨HF, hf, h1, h2, h3, h4, h5⟩ := frzR_one ho hpre hpost
  refine bs_one hu hs hz hok hlen hsz ?_ (h HF h1 h2 h3 h4 h5).run
  exact hf
theorem LRd.rd6 (c : Nat) (en : Int) (r : LRd) : (LRd.row c en r)[6]? = some (pi r.deep) := rfl
@[simp] theorem LRd.rdLen (c : Nat) (en : Int) (r : LRd) : (LRd.row c en r).length = 7 := rfl
end Go.Abs
namespace Go.Abs
open Go.Proofs
set_option autoImplicit false
set_option linter.all false
set_option maxRecDepth 100000
set_option maxHeartbeats 40000000
section
set_option maxHeartbeats 4000000
attribute [local simp ↓] wanted_at hbind_some
attribute [local simp] Gs_true Gs_false gcond_Gr Gr_true Gr_false abox frame0 int_beq int_bne aload astore partOf Keeps Same splice aUn aFieldAddr aField aBin aBinV aConvert aExtract aLen aBuild aBuild.go aalloc AS.Ext.refl AS.Ext.bump AS.Ext.setBox
theorem rContacts (n : Nat) : ∀ (H : AS) (id c : Nat) (en : Int) (r : LRd), H.box id = some [r.row c en] → r.good → r.mu ≤ n → n ≤ 1048576 → ACalls Tryz.prog 46 [.ptr id 1 0 0] H fun q H' => ∃ (l : List LEl) (r' : LRd), q = PV.sl H.color 4 (l.map (LEl.row H.color)) ∧ LEl.okL l ∧ LEl.nmL l ∧ r.tow r' ∧ LEl.sizeL l + 2 * r'.mu ≤ 2 * r.mu ∧ H' = H.setBox id [r'.row c en] := by
  induction n using Nat.strongRecOn with
  | _ n ih =>
  intro H id c en r hb hg hn hn0
  refine ACalls_intro Tryz.func46 rfl (by kernel_rfl) (by simp) fun hwf hbel => ?_
  have hid := (hwf.box _ _ hb).1
  repeat' first
    | refine T_seq ?_
    | refine T_rgn ?_
    | refine T_cd ?_
    | refine T_sk ?_
    | refine T_rt ?_
    | refine T_block ?_
    | refine T_ex ?_
    | refine Kt_then ?_
    | refine Kt_block ?_
    | refine Kr_then ?_
    | refine Kr_block ?_
    | refine Kr_loop ?_
    | refine Ke_here ?_
    | refine Ke_then ?_
    | refine Ke_loop ?_
    | refine Ke_block ?_
    | refine Hid.mk ?_
    | refine Gs.mk (fun g => ?_) (fun g => ?_) <;> (try simp only [nm] at g) <;> try (exfalso; first | contradiction | omega)
    | refine Gr.mk (fun g => ?_) (fun g => ?_) <;> (try simp only [nm] at g) <;> try (exfalso; first | contradiction | omega)
    | (refine Run.of ?_; simp (maxSteps := 1000000) (disch := first | omega | assumption | (simp; done) | fail) [*, box_sb, frz_nil])
  refine T_lp (fun k F H' => ∃ (l : List LEl) (p : PV) (s : LRd), k = s.mu ∧ F 0 = .ptr id 1 0 0 ∧ F 3 = p ∧ OutIs H.next H' p 4 (l.map (LEl.row H.color)) ∧ (H.setBox id [s.row c en]).Ext H' ∧ r.tow s ∧ LEl.okL l ∧ LEl.nmL l ∧ LEl.sizeL l + 2 * s.mu ≤ 2 * r.mu) (r.mu) ⟨[], _, r, rfl, by simp, rfl, by simp [OutIs], by rw [setBox_same hb]; exact .refl _, .refl _, trivial, trivial, by simp [LEl.sizeL]⟩ ?_
  rintro k F H1 ⟨l, p, s, rfl, g0, g3, hout, hext, hto, hok, hnm, hsz⟩
  have hb1 : H1.box id = some [s.row c en] := by rw [hext.box id (by simpa using hid)]; simp
  have hn1 : H.next ≤ H1.next := by have := hext.next; simpa using this
  have hc1 : H1.color = H.color := by have := hext.color; simpa using this
  have hid1 : ¬ id = H1.next := by omega
  have hid3 : ¬ H1.next = id := by omega
  have hid2 : ¬ id = H1.next + 1 := by omega
  have hid4 : ¬ H1.next + 1 = id := by omega
  repeat' first
    | (refine T_jr 2 (fun F H' => F 0 = .ptr id 1 0 0 ∧ F 3 = p ∧ H' = H1 ∧ s.why = 0 ∧ ¬ s.toks = []) ?_ ?_)
    | (refine T_jr2 8 (fun F H' => ∃ (s1 : LRd), F 0 = .ptr id 1 0 0 ∧ F 3 = p ∧ F 4 = .ptr H1.next 1 0 0 ∧ s.tow s1 ∧ H'.next = H1.next + 1 ∧ H'.box H1.next = some [[pi 0, pi hp, ps ⟨#[]⟩, .nil]] ∧ (H1.setBox id [s1.row c en]).Ext H') ?_ ?_)
    | refine T_seq ?_
    | refine T_rgn ?_
    | refine T_cd ?_
    | refine T_sk ?_
    | refine T_rt ?_
    | refine T_block ?_
    | refine T_ex ?_
    | refine Kt_then ?_
    | refine Kt_block ?_
    | refine Kr_then ?_
    | refine Kr_block ?_
    | refine Kr_loop ?_
    | refine Ke_here ?_
    | refine Ke_then ?_
    | refine Ke_loop ?_
    | refine Ke_block ?_
    | refine Hid.mk ?_
    | (refine Kt_thenK ?_; exact ⟨by simp [*], by simp [*], rfl, by first | exact (hob (by assumption)).1 | exact (hob rfl).1, by first | exact (hob (by assumption)).2 | exact (hob rfl).2⟩)
    | (refine Jn.mk ?_; rintro F H1 ⟨g0, g3, rfl, hw, htk⟩)
    | (refine Kt_thenK ?_; first | (refine ⟨s, ?_, ?_, ?_, .refl _, ?_, ?_, ?_⟩ <;> first | (simp [*]; done) | (refine ExtO.to ?_ (by omega) ?_ <;> first | (simp [*]; done) | ((repeat (first | assumption | exact ExtO.of (by assumption) | exact (ExtO.of (by assumption)).trans (by assumption) | exact ExtO.refl _ _ | refine ExtO.bump ?_ | refine ExtO.setId ?_ | refine ExtO.setBox (by first | omega | (simp; omega)) ?_)); done) | fail) | fail) | (refine ⟨s.fail 51 hp2, ?_, ?_, ?_, (LRd.to_fail _ _ (by decide) _).w, ?_, ?_, ?_⟩ <;> first | (simp [*]; done) | (refine ExtO.to ?_ (by omega) ?_ <;> first | (simp [*]; done) | ((repeat (first | assumption | exact ExtO.of (by assumption) | exact (ExtO.of (by assumption)).trans (by assumption) | exact ExtO.refl _ _ | refine ExtO.bump ?_ | refine ExtO.setId ?_ | refine ExtO.setBox (by first | omega | (simp; omega)) ?_)); done) | fail) | fail) | fail)
    | (refine Jn2.mk ?_; rintro F2 H2 ⟨s1, g0, g3, g4, hs1, hn2, hb2, hx2⟩; have hb3 : H2.box id = some [s1.row c en] := (by rw [hx2.box id (by simp; omega)]; simp); rw [LRd.row] at hb3; have hc2 : H2.color = H.color := (by have := hx2.color; simpa [hc1] using this); have e3 : ¬ id = H2.next := (by omega); have e4 : ¬ H1.next = H2.next := (by omega))
    | refine Ke_thenK ?_
    | refine T_dr (id := 9) (fun _ => False) [] (.free 0 (.free 1 (.free 2 (.free 3 (.free 4 (.free 5 (.sole 6 (.sole 7 .done)))))))) mix ?_
    | refine T_dr (id := 13) (fun i => i = H1.next) [7] (.free 0 (.free 1 (.free 2 (.sole 3 (.sole 4 (.sole 5 (.free 6 (.sole 7 .done)))))))) mix ?_
    | refine And.intro (fun _ h1 h2 => absurd h2 h1) ?_
    | (refine bs_one under60 Tryz.sz72 Tryz.zero72 rfl rfl (by decide) (by rfl) ?_; simp (disch := first | omega | assumption | (simp; done) | fail) [*])
    | (refine eitherK.raw ?_; simp (maxSteps := 1000000) (disch := first | omega | assumption | (simp; done) | fail) [*, hn2])
    | (refine app_one (lo := H.next) (rows := l.map (LEl.row H.color)) (hout.keep (by simp; omega) (fun i hi1 hi2 => by simp [show ¬ i = H1.next by omega, show ¬ i = H1.next + 1 by omega, show ¬ i = id by omega])) (by simp; omega) under60 Tryz.sz72 Tryz.zero72 Tryz.by72 rfl rfl (by decide) (box_sb _ _ _ _) (by simp [Frozen]) (by have := LEl.length_le_size l; simp; omega) ?_; rintro p2 H2 hout2 hab hel)
    | (refine app_one (sz := 1) (rows := []) (lo := H1.next + 1) .nil (by simp; omega) under70 Tryz.sz60 Tryz.zero60 Tryz.by60 rfl rfl (by decide) (box_sb _ _ _ _) (by simp) (by simp) ?_; rintro p3 H3 hout3 hab3 hel3; have hb4 : H3.box H1.next = some [[pi 5, pi hp, ps ⟨#[]⟩, .nil]] := (by rw [hel3.box H1.next (by simp; omega) (by simp)]; simp [*]); have hb5 : H3.box id = some [q2.row c en] := (by rw [hel3.box id (by simp; omega) (by simp)]; simp [*]); have hc3 : H3.color = H.color := (by rw [hel3.color]; simp [*]); have hn3 : H2.next ≤ H3.next := (by have := hel3.next; simp at this; omega); have hp3c := hout3.cells; have hp3k := hout3.okCells)
    | (refine callR (rOk _ id c en s (by first | assumption | exact box_self _ _ _ | (simp [*]; done) | (simp [LRd.row, LRd.setDeep, *]; done))) ?_; rintro _ Hz ⟨⟨ob, rfl, hob⟩, hz⟩; subst Hz)
    | (refine callR (rKind _ id c en s (by first | assumption | exact box_self _ _ _ | (simp [*]; done) | (simp [LRd.row, LRd.setDeep, *]; done))) ?_; rintro _ Hz ⟨⟨kn, rfl, hkn⟩, hz⟩; subst Hz)
    | (refine callR (rIs _ id c en s (by first | assumption | exact box_self _ _ _ | (simp [*]; done) | (simp [LRd.row, LRd.setDeep, *]; done)) _) ?_; rintro _ Hz ⟨⟨ib, rfl, hib⟩, hz⟩; subst Hz)
    | (refine callR (rHere H1 id c en s hb1) ?_; rintro _ Hz ⟨⟨hp, rfl⟩, hz⟩; subst Hz)
    | (refine callR (rMarked _ id c en s (by first | assumption | exact box_self _ _ _ | (simp [*]; done) | (simp [LRd.row, LRd.setDeep, *]; done))) ?_; rintro _ Hz ⟨mx, m1, rfl, hmx, hmy, hmt, hz⟩; subst Hz)
    | (refine callR (rItem _ id c en m1 (by first | assumption | exact box_self _ _ _ | (simp [*]; done) | (simp [LRd.row, LRd.setDeep, *]; done)) (hmt.good (hto.good hg))) ?_; rintro _ Hz ⟨i2, it, rfl, hio, his, him, hz⟩; subst Hz)
    | (refine callR (rMust _ id c en (s1.setDeep (IntKind.i64.wrap (s1.deep + 1))) (by simp [LRd.row, LRd.setDeep]) _) ?_; rintro _ Hz ⟨q1, rfl, hto1, hmu1, hz⟩; have hlt : q1.mu < s.mu := (by have h1 := hs1.mu; have h2 := hto1.mu; have h3 := LRd.mu_pos hw; simp only [LRd.mu_deep] at h2 hmu1; omega); subst Hz)
    | (refine callR (rHere _ id c en s (by first | assumption | exact box_self _ _ _ | (simp [*]; done) | (simp [LRd.row, LRd.setDeep, *]; done))) ?_; rintro _ Hz ⟨⟨hp2, rfl⟩, hz⟩; subst Hz)
    | (refine callR (rFail _ id c en s (by first | assumption | exact box_self _ _ _ | (simp [*]; done) | (simp [LRd.row, LRd.setDeep, *]; done)) _ _) ?_; rintro _ Hz ⟨rfl, hz⟩; subst Hz)
    | (refine callR (ih q1.mu (by have h1 := hto.mu; omega) _ id c en q1 (by first | assumption | exact box_self _ _ _ | (simp [*]; done) | (simp [LRd.row, LRd.setDeep, *]; done)) (hto1.good (hs1.good (hto.good hg))) (Nat.le_refl _) (by have h1 := hto.mu; omega)) ?_; rintro _ Hz ⟨l0, q2, rfl, hok0, hnm0, hto0, hsz0, hz⟩; subst Hz)
    | refine Gs.mk (fun g => ?_) (fun g => ?_) <;> (try simp only [nm] at g) <;> try (exfalso; first | contradiction | omega)
    | refine Gr.mk (fun g => ?_) (fun g => ?_) <;> (try simp only [nm] at g) <;> try (exfalso; first | contradiction | omega)
    | (refine Run.of ?_; simp (maxSteps := 1000000) (disch := first | omega | assumption | (simp; done) | fail) [*, box_sb, frz_nil])
  all_goals first
    | (refine Kx.mk ?_; refine owes_at_out (H1 := H.setBox id [s.row c en]) (lo := H.next) (sz := 4) (rows := l.map (LEl.row H.color)) (l := [.tmp 2]) (.inr rfl) (wf_set hwf hb (LRd.below _ _ _ _)) (by simp) rfl hext (by simp) (LEl.rows_below _ _ _) ?_; exact ⟨p, [], rfl, hout, by simp, by simp, l, s, rfl, hok, hnm, hto, hsz, rfl⟩)
    | (refine Kt_loop ⟨i2.mu, ?_, l ++ [LEl.mk (IntKind.i64.wrap (1 + mx)) hp it []], p2, i2, rfl, ?_, ?_, ?_, ?_, ?_, ?_, ?_, ?_⟩ <;> first | (have h1 := hmt.mu; have h2 := LRd.mu_pos hw; omega) | (simp [*]; done) | (simpa [LEl.row, LEl.rowsB] using hout2) | (exact hab _ (by simp) (by refine ExtO.to ?_ (by omega) ?_ <;> first | (simp [*]; done) | ((repeat (first | assumption | exact ExtO.of (by assumption) | exact (ExtO.of (by assumption)).trans (by assumption) | exact ExtO.refl _ _ | refine ExtO.bump ?_ | refine ExtO.setId ?_ | refine ExtO.setBox (by first | omega | (simp; omega)) ?_)); done) | fail)) | (exact (hto.trans hmt.w).trans hio.w) | (rw [LEl.okL_append]; exact ⟨hok, ⟨.inr rfl, trivial⟩, trivial⟩) | (rw [LEl.nmL_append]; exact ⟨hnm, ⟨his, trivial⟩, trivial⟩) | (have h1 := hmt.mu; have h2 := LRd.mu_pos hw; simp [LEl.sizeL_append, LEl.sizeL, LEl.size, LEl.sizeB]; omega) | fail)
    | skip
  refine T_lp (fun k F H' => ∃ (bs : List (List LEl)) (p4 : PV) (s5 : LRd), k = s5.mu ∧ F 0 = .ptr id 1 0 0 ∧ F 3 = p ∧ F 4 = .ptr H1.next 1 0 0 ∧ OutIs (H1.next + 1) H' p4 1 (bs.map (LEl.bRow H.color)) ∧ H'.box H1.next = some [[pi 5, pi hp, ps ⟨#[]⟩, p4]] ∧ H'.box id = some [s5.row c en] ∧ ExtO id H1 H' ∧ H1.next < H'.next ∧ s.tow s5 ∧ LEl.okB bs ∧ LEl.nmB bs ∧ 1 + LEl.sizeB bs + 2 * s5.mu ≤ 2 * s.mu ∧ s5.mu < s.mu) (q2.mu) ⟨[l0], p3, q2, rfl, ?_⟩ ?_
  · (repeat' apply And.intro) <;> first | (simp [*]; done) | (exact OutIs.keep (by simpa [LEl.bRow] using hout3) (by simp) (fun i h1 h2 => by simp [show ¬ i = H1.next by omega])) | (exact (ExtO.of (hab3 (H1.setBox id [q2.row c en]) (by simp) (by refine ExtO.to ?_ (by omega) ?_ <;> first | (simp [*]; done) | ((repeat (first | assumption | exact ExtO.of (by assumption) | exact (ExtO.of (by assumption)).trans (by assumption) | exact ExtO.refl _ _ | refine ExtO.bump ?_ | refine ExtO.setId ?_ | refine ExtO.setBox (by first | omega | (simp; omega)) ?_)); done) | fail))).setBox (Nat.le_refl _)) | (simp; omega) | (exact (hs1.trans (LRd.tow_deep _ _)).trans (hto1.w.trans hto0)) | (exact hok0) | (exact hnm0) | (exact trivial) | (have h1 := hto0.mu; simp [LEl.sizeB]; omega) | fail
  rintro k F H4 ⟨bs, p4, s5, rfl, g0, g3, g4, hout4, hb6, hb7, hx4, hn4, hs5, hok5, hnm5, hsz5, hlt5⟩
  have hp4c := hout4.cells
  have hp4k := hout4.okCells
  have hc4 : H4.color = H.color := by rw [hx4.color]; exact hc1
  have e5 : ¬ id = H4.next := by omega
  have e6 : ¬ H1.next = H4.next := by omega
  repeat' first
    | refine T_seq ?_
    | refine T_rgn ?_
    | refine T_cd ?_
    | refine T_sk ?_
    | refine T_rt ?_
    | refine T_block ?_
    | refine T_ex ?_
    | refine Kt_then ?_
    | refine Kt_block ?_
    | refine Kr_then ?_
    | refine Kr_block ?_
    | refine Kr_loop ?_
    | refine Ke_here ?_
    | refine Ke_then ?_
    | refine Ke_loop ?_
    | refine Ke_block ?_
    | refine Hid.mk ?_
    | refine T_dr (id := 15) (fun i => i = H1.next) [7] (.free 0 (.free 1 (.free 2 (.sole 3 (.sole 4 (.sole 5 (.free 6 (.sole 7 .done)))))))) mix ?_
    | refine And.intro (fun _ h1 h2 => absurd h2 h1) ?_
    | (refine bs_own (sz2 := 1) (lo := H1.next + 1) (rows := bs.map (LEl.bRow H.color)) (pre := [pi 5, pi hp, ps ⟨#[]⟩]) (post := []) (p := p4) under60 Tryz.sz72 Tryz.zero72 (hout4.keep (by simp) (fun i hi1 hi2 => by simp [show ¬ i = id by omega])) (by simp [Frozen]) (by simp) (by simp [*]) (by simp [*]) (by decide) ?_; rintro HF hfn hfc hfb hfm hfa; simp only [next_setBox] at hfn; have hfk : ∀ i, i ≤ H1.next → i ≠ id → HF.box i = H4.box i := (fun i hi e => by rw [hfb i (fun n s e' => by have := hout4.at_lt e'; omega)]; simp [e]); have hfi : HF.box id = some [(q8.setDeep (IntKind.i64.wrap (q8.deep - 1))).row c en] := (by rw [hfb id (fun n s e' => by have := hout4.at_lt e'; omega)]; simp [LRd.row, LRd.setDeep]); have hxF : ExtO id H1 HF := ⟨by rw [hfn]; exact hx4.next, fun i hi e => by rw [hfk i (by omega) e]; exact hx4.box i hi e, fun i hi => by rw [hfm]; simp; exact hx4.mp i hi, by rw [hfc]; simp; exact hx4.color⟩; have hcF : HF.color = H.color := (by rw [hfc]; simp [*]))
    | (refine app_one (lo := H.next) (rows := l.map (LEl.row H.color)) (hout.keep (by simp; omega) (fun i hi1 hi2 => by simp [show ¬ i = H4.next by omega]; exact hxF.box i hi2 (by omega))) (by simp; omega) under60 Tryz.sz72 Tryz.zero72 Tryz.by72 rfl rfl (by decide) (box_sb _ _ _ _) (by first | (simp; done) | (intro x hx; simp only [List.mem_cons, List.not_mem_nil, or_false] at hx; rcases hx with rfl | rfl | rfl | rfl <;> first | exact frozen_sl _ _ _ | (simp [Frozen]; done))) (by have := LEl.length_le_size l; have h2 := hto.mu; simp; omega) ?_; rintro p9 H9 hout9 hab9 hel9)
    | (refine eitherK.raw ?_; simp (maxSteps := 1000000) (disch := first | omega | assumption | (simp; done) | fail) [*, hn2])
    | (refine app_one (sz := 1) (rows := bs.map (LEl.bRow H.color)) (lo := H1.next + 1) (hout4.keep (by simp) (fun i hi1 hi2 => by simp [show ¬ i = H4.next by omega, show ¬ i = id by omega])) (by simp; omega) under70 Tryz.sz60 Tryz.zero60 Tryz.by60 rfl rfl (by decide) (box_sb _ _ _ _) (by simp) (by have h1 := LEl.lengthB_le bs; have h2 := hto.mu; simp; omega) ?_; rintro p5 H5 hout5 hab5 hel5; have hb8 : H5.box H1.next = some [[pi 5, pi hp, ps ⟨#[]⟩, p4]] := (by rw [hel5.box H1.next (by simp; omega) (fun n s e => by have := hout4.at_lt e; omega)]; simp [*]); have hb9 : H5.box id = some [q7.row c en] := (by rw [hel5.box id (by simp; omega) (fun n s e => by have := hout4.at_lt e; omega)]; simp [*]); have hc5 : H5.color = H.color := (by rw [hel5.color]; simp [*]); have hp5c := hout5.cells; have hp5k := hout5.okCells; have hn5 : H4.next ≤ H5.next := (by have := hel5.next; simp at this; omega))
    | (refine callR (rHave _ id c en s5 (by first | assumption | exact box_self _ _ _ | (simp [*]; done) | (simp [LRd.row, LRd.setDeep, *]; done)) _) ?_; rintro _ Hz ⟨vb6, q6, rfl, hto6, hmu6, hz⟩; subst Hz)
    | (refine callR (ih q6.mu (by have h1 := hto.mu; have h2 := hto6.mu; omega) _ id c en q6 (by first | assumption | exact box_self _ _ _ | (simp [*]; done) | (simp [LRd.row, LRd.setDeep, *]; done)) (hto6.good (hs5.good (hto.good hg))) (Nat.le_refl _) (by have h1 := hto.mu; have h2 := hto6.mu; omega)) ?_; rintro _ Hz ⟨l1, q7, rfl, hok7, hnm7, hto7, hsz7, hz⟩; subst Hz)
    | (refine callR (rMust _ id c en q6 (by first | assumption | exact box_self _ _ _ | (simp [*]; done) | (simp [LRd.row, LRd.setDeep, *]; done)) _) ?_; rintro _ Hz ⟨q8, rfl, hto8, hmu8, hz⟩; subst Hz)
    | refine Gs.mk (fun g => ?_) (fun g => ?_) <;> (try simp only [nm] at g) <;> try (exfalso; first | contradiction | omega)
    | refine Gr.mk (fun g => ?_) (fun g => ?_) <;> (try simp only [nm] at g) <;> try (exfalso; first | contradiction | omega)
    | (refine Run.of ?_; simp (maxSteps := 1000000) (disch := first | omega | assumption | (simp; done) | fail) [*, box_sb, frz_nil, LRd.rd6, LRd.rdLen])
  all_goals first
    | (refine Kt_loop ⟨q7.mu, ?_, bs ++ [l1], p5, q7, rfl, ?_⟩ <;> (have h1 := hmu6 (by first | rfl | assumption); have h2 := hto7.mu; have h3 := hto6.mu) <;> (repeat' apply And.intro) <;> first | omega | (simp [*]; done) | (exact OutIs.keep (by simpa [LEl.bRow] using hout5) (by simp) (fun i h1 h2 => by simp [show ¬ i = H1.next by omega])) | (refine (ExtO.of (hab5 (H1.setBox id [q7.row c en]) (by simp) ?_)).setBox (Nat.le_refl _); refine ExtO.to ?_ (by omega) ?_ <;> first | (simp [*]; done) | ((repeat (first | assumption | exact ExtO.of (by assumption) | exact (ExtO.of (by assumption)).trans (by assumption) | exact ExtO.refl _ _ | refine ExtO.bump ?_ | refine ExtO.setId ?_ | refine ExtO.setBox (by first | omega | (simp; omega)) ?_)); done) | fail) | (simp; omega) | (exact hs5.trans (hto6.w.trans hto7)) | (rw [LEl.okB_append]; exact ⟨hok5, hok7, trivial⟩) | (rw [LEl.nmB_append]; exact ⟨hnm5, hnm7, trivial⟩) | (simp [LEl.sizeB_append, LEl.sizeB]; omega) | fail)
    | (refine Kt_loop ⟨q8.mu, ?_, l ++ [LEl.mk 5 hp eE bs], p9, q8.setDeep (IntKind.i64.wrap (q8.deep - 1)), rfl, ?_⟩ <;> (have h2 := hto8.mu; have h3 := hto6.mu) <;> (repeat' apply And.intro) <;> first | omega | (simp [*]; done) | (simpa [LEl.row, LEl.rowsB_eq] using hout9) | (refine hab9 _ (by simp) ?_; refine ExtO.to ?_ (by omega) ?_ <;> first | (simp [*]; done) | ((repeat (first | assumption | exact ExtO.of (by assumption) | exact (ExtO.of (by assumption)).trans (by assumption) | exact ExtO.refl _ _ | refine ExtO.bump ?_ | refine ExtO.setId ?_ | refine ExtO.setBox (by first | omega | (simp; omega)) ?_)); done) | fail) | (exact hto.trans (hs5.trans (hto6.w.trans (hto8.w.trans (LRd.tow_deep _ _))))) | (rw [LEl.okL_append]; exact ⟨hok, ⟨.inl rfl, hok5⟩, trivial⟩) | (rw [LEl.nmL_append]; exact ⟨hnm, ⟨by decide, hnm5⟩, trivial⟩) | (simp [LEl.sizeL_append, LEl.sizeL, LEl.size]; omega) | fail)
    | fail
set_option maxHeartbeats 4000000
def valF (c : Int) : Int := if 48 ≤ c ∧ c ≤ 57 then c - 48 else if 97 ≤ c ∧ c ≤ 102 then c - 87 else if 65 ≤ c ∧ c ≤ 70 then c - 55 else 16
theorem valF_le (c : Int) : 0 ≤ valF c ∧ valF c ≤ 16 := by unfold valF; repeat' split <;> omega
theorem rValue (H : AS) (c : Int) (hc : 0 ≤ c ∧ c < 256) : ACalls Tryz.prog 137 [.val (.int .u8 c)] H fun q H' => q = k64 (valF c) ∧ H' = H := by
  refine ACalls_intro Tryz.func137 rfl (by kernel_rfl) (by simp) fun hwf hbel => ?_
  repeat' first
    | refine T_seq ?_
    | refine T_rgn ?_
    | refine T_cd ?_
    | refine T_sk ?_
    | refine T_rt ?_
    | refine T_block ?_
    | refine T_ex ?_
    | refine Kt_then ?_
    | refine Kt_block ?_
    | refine Kr_then ?_
    | refine Kr_block ?_
    | refine Ke_here ?_
    | refine Ke_then ?_
    | refine Hid.mk ?_
    | (refine callR (wDigX _ _) ?_; rintro _ Hz ⟨rfl, hz⟩; subst Hz)
    | refine Gs.mk (fun g => ?_) (fun g => ?_) <;> (try simp only [nm] at g) <;> try (exfalso; first | contradiction | omega)
    | refine Gr.mk (fun g => ?_) (fun g => ?_) <;> (try simp only [nm] at g) <;> try (exfalso; first | contradiction | omega)
    | (refine Run.of ?_; simp (maxSteps := 1000000) (disch := first | omega | assumption | (simp; done) | fail) [*, idx9, cutAB, cutA, cutB, wrap_i64, wrap_nn, ext_size, beq_bytes, app_size, catIf, bemp, wrap_u8, wrap_u64])
  all_goals (refine Kx.mk ?_; refine owes_one (.inr rfl) hwf rfl ?_ ?_ ?_ ?_ <;> (try simp (maxDischargeDepth := 20) (disch := omega) [valF, wrap_u8, wrap_u64, *]) <;> (try (repeat' split)) <;> (try omega))
theorem wEscape (H : AS) (s : ByteArray) (a : Int) (hs : s.size ≤ 65536) (h0 : 0 ≤ a) (ha : a < s.size) : ACalls Tryz.prog 122 [ps s, pi a] H fun q H' => (∃ (w : ByteArray) (n : Int), q = .tuple [ps w, pi n] ∧ w.size ≤ 1 ∧ 0 ≤ n ∧ n ≤ 2 ∧ a + n ≤ s.size) ∧ H' = H := by
  refine ACalls_intro Tryz.func122 rfl (by kernel_rfl) (by simp) fun hwf hbel => ?_
  repeat' first
    | refine T_seq ?_
    | refine T_rgn ?_
    | refine T_cd ?_
    | refine T_sk ?_
    | refine T_rt ?_
    | refine T_block ?_
    | refine T_ex ?_
    | refine Kt_then ?_
    | refine Kt_block ?_
    | refine Kr_then ?_
    | refine Kr_block ?_
    | refine Ke_here ?_
    | refine Ke_then ?_
    | refine Hid.mk ?_
    | refine T_dr (id := 20) (fun j => j < H.next) [] (.free 0 (.free 1 (.free 2 (.free 3 (.free 4 (.free 5 (.free 6 (.free 7 (.free 8 (.free 9 (.free 10 (.free 11 (.sole 12 (.sole 13 (.free 14 (.free 15 .done)))))))))))))))) mix ?_
    | (refine eitherK.raw ?_; simp)
    | (refine And.intro (fun _ h1 h2 => absurd h2 (Nat.ne_of_lt h1)) ?_; simp [*, conv2009, aToStringM, under200, under9, under5, bytesOfRows])
    | (refine callR (rValue _ _ (by first | exact byteAt_lt _ _ | omega)) ?_; rintro _ Hz ⟨rfl, hz⟩; subst Hz)
    | (refine askR (fun _ => _) (fun _ _ => rfl) (fun Hq _ => rValue Hq _ (by first | exact byteAt_lt _ _ | omega)) ?_)
    | refine Gs.mk (fun g => ?_) (fun g => ?_) <;> (try simp only [nm] at g) <;> try (exfalso; first | contradiction | omega)
    | refine Gr.mk (fun g => ?_) (fun g => ?_) <;> (try simp only [nm] at g) <;> try (exfalso; first | contradiction | omega)
    | (refine Run.of ?_; simp (maxSteps := 1000000) (disch := first | omega | assumption | (simp; done) | fail) [*, idx9, cutAB, cutA, cutB, wrap_i64, wrap_nn, ext_size, beq_bytes, app_size, catIf, bemp, wrap_u8, wrap_u64, toBytes, conv2009, aToStringM, under200, under9, under5, bytesOfRows])
  all_goals (refine Kx.mk ?_; refine owes_r (l := [.tmp 4, .tmp 5]) (.inr rfl) hwf rfl (by first | (simp (maxDischargeDepth := 20) [*]; done) | (repeat (first | exact AS.Ext.refl _ | assumption | refine AS.Ext.bump ?_ | refine AS.Ext.setBox (by first | omega | (simp; omega) | (simp; done)) ?_))) ?_ <;> (try simp (maxDischargeDepth := 20) [resP, packed, plain1_agg, plain1_sl, bemp, and_assoc, aload, partOf, *]) <;> (try ((repeat' apply And.intro) <;> first | omega | decide | fail)))
set_option maxHeartbeats 4000000
theorem wFloat (H : AS) (s : ByteArray) (a p : Int) (hs : s.size ≤ 65536) (h0 : 0 ≤ a) (ha : a ≤ p) (hp : p < s.size) : ACalls Tryz.prog 129 [ps s, pi a, pi p] H fun q H' => (∃ (x b : Int) (t : ByteArray) (e : Int) (o : Bool), q = .tuple [.agg [k8 x, k64 b, ps t], pi e, pb o] ∧ a ≤ e ∧ e ≤ s.size) ∧ H' = H := by
  refine ACalls_intro Tryz.func129 rfl (by kernel_rfl) (by simp) fun hwf hbel => ?_
  repeat' first
    | (refine T_jr 5 (fun F H' => ∃ (e x : Int) (d : ByteArray), F 0 = ps s ∧ F 1 = pi a ∧ F 6 = .ptr H.next 1 0 0 ∧ F 9 = .ptr (H.next + 1) 1 0 0 ∧ F 10 = pi e ∧ F 11 = ps d ∧ F 12 = pi x ∧ a ≤ e ∧ e ≤ s.size ∧ d.size ≤ 65536 ∧ H'.next = H.next + 2 ∧ H'.box H.next = some [[k8 0, k64 0, ps ⟨#[]⟩]] ∧ H'.box (H.next + 1) = some [[k8 0, k64 0, ps ⟨#[]⟩]] ∧ H.Ext H') ?_ ?_)
    | refine T_seq ?_
    | refine T_rgn ?_
    | refine T_cd ?_
    | refine T_sk ?_
    | refine T_rt ?_
    | refine T_block ?_
    | refine T_ex ?_
    | refine Kt_then ?_
    | refine Kt_block ?_
    | refine Kr_then ?_
    | refine Kr_block ?_
    | refine Ke_here ?_
    | refine Ke_then ?_
    | refine Hid.mk ?_
    | refine fun (r : Nat) => ?_
    | (refine Kt_thenK ?_; exact ⟨_, _, _, by first | rfl | assumption | (simp [*]; done), by first | rfl | assumption | (simp [*]; done), by first | rfl | assumption | (simp [*]; done), by first | rfl | assumption | (simp [*]; done), by first | rfl | assumption | (simp [*]; done), by first | rfl | assumption | (simp [*]; done), by first | rfl | assumption | (simp [*]; done), by omega, by omega, by omega, by simp [*], by simp [*, bemp], by simp [*, bemp], by first | assumption | (repeat (first | exact AS.Ext.refl _ | assumption | refine AS.Ext.bump ?_ | refine AS.Ext.setBox (by first | omega | (simp; omega) | (simp; done)) ?_))⟩)
    | refine Kr_thenK ?_
    | (refine Jn.mk ?_; rintro F1 H1 ⟨e, x, d, g0, g1, g6, g9, g10, g11, g12, he1, he2, hd, hn, hb0, hb1, hx⟩)
    | (refine callR (wDigit _ _) ?_; rintro _ Hz ⟨⟨_, rfl⟩, hz⟩; subst Hz)
    | (refine callR (wInner _ _) ?_; rintro _ Hz ⟨⟨_, rfl⟩, hz⟩; subst Hz)
    | (refine callR (wStretch _ _ _ hs (by omega) (by omega)) ?_; rintro _ Hz ⟨⟨se, rfl, hs1, hs2⟩, hz⟩; subst Hz)
    | (refine callR (wPlain _ _ (by first | omega | (rw [ByteArray.size_extract]; omega))) ?_; rintro _ Hz ⟨⟨pw, rfl, hpw⟩, hz⟩; try rw [ByteArray.size_extract] at hpw; subst Hz)
    | (refine callR (wTens _ _ (by omega)) ?_; rintro _ Hz ⟨⟨_, rfl⟩, hz⟩; subst Hz)
    | (refine callR (wLreal _ _) ?_; rintro _ Hz ⟨⟨_, rfl⟩, hz⟩; subst Hz)
    | refine Gs.mk (fun g => ?_) (fun g => ?_) <;> (try simp only [nm] at g) <;> try (exfalso; first | contradiction | omega)
    | refine Gr.mk (fun g => ?_) (fun g => ?_) <;> (try simp only [nm] at g) <;> try (exfalso; first | contradiction | omega)
    | (refine Run.of ?_; simp (maxSteps := 1000000) (disch := first | omega | assumption | (simp; done) | fail) [*, idx9, cutAB, cutA, cutB, wrap_i64, wrap_nn, ext_size, beq_bytes, app_size, catIf, bemp])
  all_goals (try (refine Kx.mk ?_; refine owes_r (l := [.cell 6 119, .tmp 7, .tmp 8]) (.inr rfl) hwf rfl (by first | (simp (maxDischargeDepth := 20) [*]; done) | (repeat (first | exact AS.Ext.refl _ | assumption | refine AS.Ext.bump ?_ | refine AS.Ext.setBox (by first | omega | (simp; omega) | (simp; done)) ?_))) ?_ <;> (try simp (maxDischargeDepth := 20) [resP, packed, plain1_agg, plain1_sl, bemp, and_assoc, aload, partOf, *]) <;> (try ((repeat' apply And.intro) <;> first | omega | fail))))
  all_goals try (
    refine T_la 12 (fun k F H' => ∃ (e : Int), ((s.size : Int) - e).toNat ≤ k ∧ F 0 = ps s ∧ F 1 = pi a ∧ F 6 = .ptr H.next 1 0 0 ∧ F 9 = .ptr (H.next + 1) 1 0 0 ∧ F 13 = pi e ∧ a ≤ e ∧ e ≤ s.size ∧ (∃ d : ByteArray, F 11 = ps d ∧ d.size ≤ 65536) ∧ (∃ x : Int, F 12 = pi x) ∧ (∃ x : Int, F 15 = pi x) ∧ (∃ x : Int, F 16 = pi x) ∧ (∃ m : Bool, F 14 = pb m) ∧ H'.next = H.next + 2 ∧ H'.box H.next = some [[k8 0, k64 0, ps ⟨#[]⟩]] ∧ H'.box (H.next + 1) = some [[k8 0, k64 0, ps ⟨#[]⟩]] ∧ H.Ext H') (s.size) ?_ (Ls.mk ?_)
    · first | (refine ⟨se + 1, ?_⟩ <;> (repeat' apply And.intro) <;> first | omega | rfl | assumption | (exact ⟨_, rfl⟩) | (simp (disch := first | omega | assumption | (simp; done) | fail) [*, idx9, cutAB, cutA, cutB, wrap_i64, wrap_nn, ext_size, beq_bytes, app_size, catIf, bemp]; done) | exact ⟨_, rfl, by first | omega | (simp; omega)⟩ | exact ⟨_, rfl, by omega, by omega⟩ | exact ⟨d, by simp [*], hd⟩ | exact ⟨_, by simp [*]; rfl⟩ | exact ⟨y, by simp [*], hy1, hy2⟩ | exact ⟨x, by simp [*], hx1, hx2⟩ | ((repeat (first | exact AS.Ext.refl _ | assumption | refine AS.Ext.bump ?_ | refine AS.Ext.setBox (by first | omega | (simp; omega) | (simp; done)) ?_)); done) | (simp [*]; omega) | fail) | (refine ⟨se + 1 + 1, ?_⟩ <;> (repeat' apply And.intro) <;> first | omega | rfl | assumption | (exact ⟨_, rfl⟩) | (simp (disch := first | omega | assumption | (simp; done) | fail) [*, idx9, cutAB, cutA, cutB, wrap_i64, wrap_nn, ext_size, beq_bytes, app_size, catIf, bemp]; done) | exact ⟨_, rfl, by first | omega | (simp; omega)⟩ | exact ⟨_, rfl, by omega, by omega⟩ | exact ⟨d, by simp [*], hd⟩ | exact ⟨_, by simp [*]; rfl⟩ | exact ⟨y, by simp [*], hy1, hy2⟩ | exact ⟨x, by simp [*], hx1, hx2⟩ | ((repeat (first | exact AS.Ext.refl _ | assumption | refine AS.Ext.bump ?_ | refine AS.Ext.setBox (by first | omega | (simp; omega) | (simp; done)) ?_)); done) | (simp [*]; omega) | fail)
    rintro k F H1 ⟨e, hk, g0, g1, g6, g9, g13, he1, he2, ⟨d, g11, hd⟩, ⟨x, g12⟩, ⟨y, g15⟩, ⟨z, g16⟩, ⟨mi, g14⟩, hn, hb0, hb1, hx⟩
    repeat' first
      | (refine T_jr 5 (fun F H' => ∃ (e x : Int) (d : ByteArray), F 0 = ps s ∧ F 1 = pi a ∧ F 6 = .ptr H.next 1 0 0 ∧ F 9 = .ptr (H.next + 1) 1 0 0 ∧ F 10 = pi e ∧ F 11 = ps d ∧ F 12 = pi x ∧ a ≤ e ∧ e ≤ s.size ∧ d.size ≤ 65536 ∧ H'.next = H.next + 2 ∧ H'.box H.next = some [[k8 0, k64 0, ps ⟨#[]⟩]] ∧ H'.box (H.next + 1) = some [[k8 0, k64 0, ps ⟨#[]⟩]] ∧ H.Ext H') ?_ ?_)
      | refine T_seq ?_
      | refine T_rgn ?_
      | refine T_cd ?_
      | refine T_sk ?_
      | refine T_rt ?_
      | refine T_block ?_
      | refine T_ex ?_
      | refine Kt_then ?_
      | refine Kt_block ?_
      | refine Kr_then ?_
      | refine Kr_block ?_
      | refine Kr_loop ?_
      | refine Ke_here ?_
      | refine Ke_then ?_
      | refine Ke_loop ?_
      | refine Ke_block ?_
      | refine Hid.mk ?_
      | refine fun (r : Nat) => ?_
      | (refine Kt_thenK ?_; exact ⟨_, _, _, by first | rfl | assumption | (simp [*]; done), by first | rfl | assumption | (simp [*]; done), by first | rfl | assumption | (simp [*]; done), by first | rfl | assumption | (simp [*]; done), by first | rfl | assumption | (simp [*]; done), by first | rfl | assumption | (simp [*]; done), by first | rfl | assumption | (simp [*]; done), by omega, by omega, by omega, by simp [*], by simp [*, bemp], by simp [*, bemp], by first | assumption | (repeat (first | exact AS.Ext.refl _ | assumption | refine AS.Ext.bump ?_ | refine AS.Ext.setBox (by first | omega | (simp; omega) | (simp; done)) ?_))⟩)
      | refine Kr_thenK ?_
      | (refine Jn.mk ?_; rintro F1 H1 ⟨e, x, d, g0, g1, g6, g9, g10, g11, g12, he1, he2, hd, hn, hb0, hb1, hx⟩)
      | (refine callR (wDigit _ _) ?_; rintro _ Hz ⟨⟨_, rfl⟩, hz⟩; subst Hz)
      | (refine callR (wInner _ _) ?_; rintro _ Hz ⟨⟨_, rfl⟩, hz⟩; subst Hz)
      | (refine callR (wStretch _ _ _ hs (by omega) (by omega)) ?_; rintro _ Hz ⟨⟨se, rfl, hs1, hs2⟩, hz⟩; subst Hz)
      | (refine callR (wPlain _ _ (by first | omega | (rw [ByteArray.size_extract]; omega))) ?_; rintro _ Hz ⟨⟨pw, rfl, hpw⟩, hz⟩; try rw [ByteArray.size_extract] at hpw; subst Hz)
      | (refine callR (wTens _ _ (by omega)) ?_; rintro _ Hz ⟨⟨_, rfl⟩, hz⟩; subst Hz)
      | (refine callR (wLreal _ _) ?_; rintro _ Hz ⟨⟨_, rfl⟩, hz⟩; subst Hz)
      | refine Gs.mk (fun g => ?_) (fun g => ?_) <;> (try simp only [nm] at g) <;> try (exfalso; first | contradiction | omega)
      | refine Gr.mk (fun g => ?_) (fun g => ?_) <;> (try simp only [nm] at g) <;> try (exfalso; first | contradiction | omega)
      | (refine Run.of ?_; simp (maxSteps := 1000000) (disch := first | omega | assumption | (simp; done) | fail) [*, idx9, cutAB, cutA, cutB, wrap_i64, wrap_nn, ext_size, beq_bytes, app_size, catIf, bemp])
    all_goals (try (refine Kx.mk ?_; refine owes_r (l := [.cell 6 119, .tmp 7, .tmp 8]) (.inr rfl) hwf rfl (by first | (simp (maxDischargeDepth := 20) [*]; done) | (repeat (first | exact AS.Ext.refl _ | assumption | refine AS.Ext.bump ?_ | refine AS.Ext.setBox (by first | omega | (simp; omega) | (simp; done)) ?_))) ?_ <;> (try simp (maxDischargeDepth := 20) [resP, packed, plain1_agg, plain1_sl, bemp, and_assoc, aload, partOf, *]) <;> (try ((repeat' apply And.intro) <;> first | omega | fail))))
    all_goals first | (refine Kt_loop ⟨_, ?_, e + 1, Nat.le_refl _, ?_⟩ <;> (repeat' apply And.intro) <;> first | omega | rfl | assumption | (exact ⟨_, rfl⟩) | (simp (disch := first | omega | assumption | (simp; done) | fail) [*, idx9, cutAB, cutA, cutB, wrap_i64, wrap_nn, ext_size, beq_bytes, app_size, catIf, bemp]; done) | exact ⟨_, rfl, by first | omega | (simp; omega)⟩ | exact ⟨_, rfl, by omega, by omega⟩ | exact ⟨d, by simp [*], hd⟩ | exact ⟨_, by simp [*]; rfl⟩ | exact ⟨y, by simp [*], hy1, hy2⟩ | exact ⟨x, by simp [*], hx1, hx2⟩ | ((repeat (first | exact AS.Ext.refl _ | assumption | refine AS.Ext.bump ?_ | refine AS.Ext.setBox (by first | omega | (simp; omega) | (simp; done)) ?_)); done) | (simp [*]; omega) | fail) | skip)
  all_goals (try (refine Kx.mk ?_; refine owes_r (l := [.cell 6 119, .tmp 7, .tmp 8]) (.inr rfl) hwf rfl (by first | (simp (maxDischargeDepth := 20) [*]; done) | (repeat (first | exact AS.Ext.refl _ | assumption | refine AS.Ext.bump ?_ | refine AS.Ext.setBox (by first | omega | (simp; omega) | (simp; done)) ?_))) ?_ <;> (try simp (maxDischargeDepth := 20) [resP, packed, plain1_agg, plain1_sl, bemp, and_assoc, aload, partOf, *]) <;> (try ((repeat' apply And.intro) <;> first | omega | fail))))
  all_goals try (
    refine T_la 26 (fun k F H' => ∃ (e : Int) (d : ByteArray), k = ((d.size : Int) - e).toNat ∧ F 0 = ps s ∧ F 1 = pi a ∧ F 6 = .ptr H.next 1 0 0 ∧ F 9 = .ptr (H.next + 1) 1 0 0 ∧ F 11 = ps d ∧ d.size ≤ 65536 ∧ F 18 = pi e ∧ 0 ≤ e ∧ (∃ y : Int, F 10 = pi y ∧ a ≤ y ∧ y ≤ s.size) ∧ (∃ x : Int, F 12 = pi x ∧ -22 ≤ x ∧ x ≤ 22) ∧ (∃ x : Int, F 17 = pi x) ∧ H'.next = H.next + 2 ∧ H'.box H.next = some [[k8 0, k64 0, ps ⟨#[]⟩]] ∧ H'.box (H.next + 1) = some [[k8 0, k64 0, ps ⟨#[]⟩]] ∧ H.Ext H') (d.size) ?_ (Ls.mk ?_)
    · refine ⟨0, d, ?_⟩ <;> (repeat' apply And.intro) <;> first | omega | rfl | assumption | (exact ⟨_, rfl⟩) | (simp (disch := first | omega | assumption | (simp; done) | fail) [*, idx9, cutAB, cutA, cutB, wrap_i64, wrap_nn, ext_size, beq_bytes, app_size, catIf, bemp]; done) | exact ⟨_, rfl, by first | omega | (simp; omega)⟩ | exact ⟨_, rfl, by omega, by omega⟩ | exact ⟨d, by simp [*], hd⟩ | exact ⟨_, by simp [*]; rfl⟩ | exact ⟨y, by simp [*], hy1, hy2⟩ | exact ⟨x, by simp [*], hx1, hx2⟩ | ((repeat (first | exact AS.Ext.refl _ | assumption | refine AS.Ext.bump ?_ | refine AS.Ext.setBox (by first | omega | (simp; omega) | (simp; done)) ?_)); done) | (simp [*]; omega) | fail
    rintro k F H1 ⟨e, d, rfl, g0, g1, g6, g9, g11, hd, g18, he0, ⟨y, g10, hy1, hy2⟩, ⟨x, g12, hx1, hx2⟩, ⟨z, g17⟩, hn, hb0, hb1, hx⟩
    repeat' first
      | (refine T_jr 5 (fun F H' => ∃ (e x : Int) (d : ByteArray), F 0 = ps s ∧ F 1 = pi a ∧ F 6 = .ptr H.next 1 0 0 ∧ F 9 = .ptr (H.next + 1) 1 0 0 ∧ F 10 = pi e ∧ F 11 = ps d ∧ F 12 = pi x ∧ a ≤ e ∧ e ≤ s.size ∧ d.size ≤ 65536 ∧ H'.next = H.next + 2 ∧ H'.box H.next = some [[k8 0, k64 0, ps ⟨#[]⟩]] ∧ H'.box (H.next + 1) = some [[k8 0, k64 0, ps ⟨#[]⟩]] ∧ H.Ext H') ?_ ?_)
      | refine T_seq ?_
      | refine T_rgn ?_
      | refine T_cd ?_
      | refine T_sk ?_
      | refine T_rt ?_
      | refine T_block ?_
      | refine T_ex ?_
      | refine Kt_then ?_
      | refine Kt_block ?_
      | refine Kr_then ?_
      | refine Kr_block ?_
      | refine Kr_loop ?_
      | refine Ke_here ?_
      | refine Ke_then ?_
      | refine Ke_loop ?_
      | refine Ke_block ?_
      | refine Hid.mk ?_
      | refine fun (r : Nat) => ?_
      | (refine Kt_thenK ?_; exact ⟨_, _, _, by first | rfl | assumption | (simp [*]; done), by first | rfl | assumption | (simp [*]; done), by first | rfl | assumption | (simp [*]; done), by first | rfl | assumption | (simp [*]; done), by first | rfl | assumption | (simp [*]; done), by first | rfl | assumption | (simp [*]; done), by first | rfl | assumption | (simp [*]; done), by omega, by omega, by omega, by simp [*], by simp [*, bemp], by simp [*, bemp], by first | assumption | (repeat (first | exact AS.Ext.refl _ | assumption | refine AS.Ext.bump ?_ | refine AS.Ext.setBox (by first | omega | (simp; omega) | (simp; done)) ?_))⟩)
      | refine Kr_thenK ?_
      | (refine Jn.mk ?_; rintro F1 H1 ⟨e, x, d, g0, g1, g6, g9, g10, g11, g12, he1, he2, hd, hn, hb0, hb1, hx⟩)
      | (refine callR (wDigit _ _) ?_; rintro _ Hz ⟨⟨_, rfl⟩, hz⟩; subst Hz)
      | (refine callR (wInner _ _) ?_; rintro _ Hz ⟨⟨_, rfl⟩, hz⟩; subst Hz)
      | (refine callR (wStretch _ _ _ hs (by omega) (by omega)) ?_; rintro _ Hz ⟨⟨se, rfl, hs1, hs2⟩, hz⟩; subst Hz)
      | (refine callR (wPlain _ _ (by first | omega | (rw [ByteArray.size_extract]; omega))) ?_; rintro _ Hz ⟨⟨pw, rfl, hpw⟩, hz⟩; try rw [ByteArray.size_extract] at hpw; subst Hz)
      | (refine callR (wTens _ _ (by omega)) ?_; rintro _ Hz ⟨⟨_, rfl⟩, hz⟩; subst Hz)
      | (refine callR (wLreal _ _) ?_; rintro _ Hz ⟨⟨_, rfl⟩, hz⟩; subst Hz)
      | refine Gs.mk (fun g => ?_) (fun g => ?_) <;> (try simp only [nm] at g) <;> try (exfalso; first | contradiction | omega)
      | refine Gr.mk (fun g => ?_) (fun g => ?_) <;> (try simp only [nm] at g) <;> try (exfalso; first | contradiction | omega)
      | (refine Run.of ?_; simp (maxSteps := 1000000) (disch := first | omega | assumption | (simp; done) | fail) [*, idx9, cutAB, cutA, cutB, wrap_i64, wrap_nn, ext_size, beq_bytes, app_size, catIf, bemp])
    all_goals (try (refine Kx.mk ?_; refine owes_r (l := [.cell 6 119, .tmp 7, .tmp 8]) (.inr rfl) hwf rfl (by first | (simp (maxDischargeDepth := 20) [*]; done) | (repeat (first | exact AS.Ext.refl _ | assumption | refine AS.Ext.bump ?_ | refine AS.Ext.setBox (by first | omega | (simp; omega) | (simp; done)) ?_))) ?_ <;> (try simp (maxDischargeDepth := 20) [resP, packed, plain1_agg, plain1_sl, bemp, and_assoc, aload, partOf, *]) <;> (try ((repeat' apply And.intro) <;> first | omega | fail))))
    all_goals first | (refine Kt_loop ⟨_, ?_, e + 1, d, rfl, ?_⟩ <;> (repeat' apply And.intro) <;> first | omega | rfl | assumption | (exact ⟨_, rfl⟩) | (simp (disch := first | omega | assumption | (simp; done) | fail) [*, idx9, cutAB, cutA, cutB, wrap_i64, wrap_nn, ext_size, beq_bytes, app_size, catIf, bemp]; done) | exact ⟨_, rfl, by first | omega | (simp; omega)⟩ | exact ⟨_, rfl, by omega, by omega⟩ | exact ⟨d, by simp [*], hd⟩ | exact ⟨_, by simp [*]; rfl⟩ | exact ⟨y, by simp [*], hy1, hy2⟩ | exact ⟨x, by simp [*], hx1, hx2⟩ | ((repeat (first | exact AS.Ext.refl _ | assumption | refine AS.Ext.bump ?_ | refine AS.Ext.setBox (by first | omega | (simp; omega) | (simp; done)) ?_)); done) | (simp [*]; omega) | fail) | skip)
set_option maxHeartbeats 4000000
theorem baseOk {s : ByteArray} {a e n : Int} {k : Bool} {c : UInt8} (h0 : 0 ≤ a) (h5 : k = true → n = 0 → ∀ j : Int, a ≤ j → j < e → byteAt s j = 95 ∨ byteAt s j = 48) (hk : k = true) (hn : 0 ≤ n) (hn2 : n < 2 ^ 64) (hc : c.toNat ≠ 95 ∧ c.toNat ≠ 48)
    (h1 : (s.extract a.toNat e.toNat).data.toList[0]? = some c) : 0 < n ∧ n < 2 ^ 64 := by
  rw [ByteArray.data_extract, Array.toList_extract] at h1
  simp [List.getElem?_take] at h1
  have hb : byteAt s a = (c.toNat : Int) := by unfold byteAt; simp [h1.2]
  refine ⟨?_, hn2⟩
  by_cases hz : n = 0
  · have := h5 hk hz a (by omega) (by omega)
    omega
  · omega
theorem base50 {s : ByteArray} {a e n : Int} {k : Bool} (h0 : 0 ≤ a) (h5 : k = true → n = 0 → ∀ j : Int, a ≤ j → j < e → byteAt s j = 95 ∨ byteAt s j = 48) (hk : k = true) (hn : 0 ≤ n) (hn2 : n < 2 ^ 64) (h : s.extract a.toNat e.toNat = { data := #[50] }) : 0 < n ∧ n < 2 ^ 64 := baseOk (c := 50) h0 h5 hk hn hn2 (by decide) (by rw [h]; rfl)
theorem base56 {s : ByteArray} {a e n : Int} {k : Bool} (h0 : 0 ≤ a) (h5 : k = true → n = 0 → ∀ j : Int, a ≤ j → j < e → byteAt s j = 95 ∨ byteAt s j = 48) (hk : k = true) (hn : 0 ≤ n) (hn2 : n < 2 ^ 64) (h : s.extract a.toNat e.toNat = { data := #[56] }) : 0 < n ∧ n < 2 ^ 64 := baseOk (c := 56) h0 h5 hk hn hn2 (by decide) (by rw [h]; rfl)
theorem base49 {s : ByteArray} {a e n : Int} {k : Bool} (h0 : 0 ≤ a) (h5 : k = true → n = 0 → ∀ j : Int, a ≤ j → j < e → byteAt s j = 95 ∨ byteAt s j = 48) (hk : k = true) (hn : 0 ≤ n) (hn2 : n < 2 ^ 64) (h : s.extract a.toNat e.toNat = { data := #[49, 54] }) : 0 < n ∧ n < 2 ^ 64 := baseOk (c := 49) h0 h5 hk hn hn2 (by decide) (by rw [h]; rfl)
theorem wNumber (H : AS) (s : ByteArray) (a : Int) (hs : s.size ≤ 65536) (h0 : 0 ≤ a) (ha : a ≤ s.size) : ACalls Tryz.prog 106 [ps s, pi a] H fun q H' => (∃ (x b : Int) (t : ByteArray) (e : Int) (o : Bool), q = .tuple [.agg [k8 x, k64 b, ps t], pi e, pb o] ∧ a ≤ e ∧ e ≤ s.size) ∧ H' = H := by
  refine ACalls_intro Tryz.func106 rfl (by kernel_rfl) (by simp) fun hwf hbel => ?_
  repeat' first
    | refine T_seq ?_
    | refine T_rgn ?_
    | refine T_cd ?_
    | refine T_sk ?_
    | refine T_rt ?_
    | refine T_block ?_
    | refine T_ex ?_
    | refine Kt_then ?_
    | refine Kt_block ?_
    | refine Kr_then ?_
    | refine Kr_block ?_
    | refine Ke_here ?_
    | refine Ke_then ?_
    | refine Hid.mk ?_
    | (refine callR (wWhole _ _ _ _ hs (by omega) (by omega) (by first | omega | exact base50 h0 hw5 (by assumption) hw3 hw4 (by assumption) | exact base56 h0 hw5 (by assumption) hw3 hw4 (by assumption) | exact base49 h0 hw5 (by assumption) hw3 hw4 (by assumption))) ?_; rintro _ Hz ⟨⟨wn, we, wk, rfl, hw1, hw2, hw3, hw4, hw5⟩, hz⟩; subst Hz)
    | (refine callR (wDigit _ _) ?_; rintro _ Hz ⟨⟨_, rfl⟩, hz⟩; subst Hz)
    | (refine callR (wInner _ _) ?_; rintro _ Hz ⟨⟨_, rfl⟩, hz⟩; subst Hz)
    | (refine callR (wFloat _ _ _ _ hs h0 (by omega) (by omega)) ?_; rintro _ Hz ⟨⟨_, _, _, fe, _, rfl, hf1, hf2⟩, hz⟩; subst Hz)
    | refine Gs.mk (fun g => ?_) (fun g => ?_) <;> (try simp only [nm] at g) <;> try (exfalso; first | contradiction | omega)
    | refine Gr.mk (fun g => ?_) (fun g => ?_) <;> (try simp only [nm] at g) <;> try (exfalso; first | contradiction | omega)
    | (refine Run.of ?_; simp (maxSteps := 1000000) (disch := first | omega | assumption | (simp; done) | fail) [*, idx9, cutAB, cutA, cutB, wrap_i64, wrap_nn, ext_size, beq_bytes, app_size, catIf, bemp])
  all_goals (refine Kx.mk ?_; refine owes_r (l := [.cell 4 119, .tmp 5, .tmp 6]) (.inr rfl) hwf rfl (by first | (simp (maxDischargeDepth := 20) [*]; done) | (repeat (first | exact AS.Ext.refl _ | assumption | refine AS.Ext.bump ?_ | refine AS.Ext.setBox (by first | omega | (simp; omega) | (simp; done)) ?_))) ?_ <;> (try simp (maxDischargeDepth := 20) [resP, packed, plain1_agg, plain1_sl, bemp, and_assoc, aload, partOf, *]) <;> (try ((repeat' apply And.intro) <;> first | omega | fail)))
set_option maxHeartbeats 4000000
theorem tDigit (H : AS) (c : Int) : ACalls Tryz.prog 175 [.val (.int .u8 c)] H fun q H' => (∃ b : Bool, q = pb b ∧ (b = true → 48 ≤ c ∧ c ≤ 57)) ∧ H' = H := by
  refine ACalls_intro Tryz.func175 rfl (by kernel_rfl) (by simp) fun hwf hbel => ?_
  repeat' first
    | refine T_seq ?_
    | refine T_rgn ?_
    | refine T_cd ?_
    | refine T_sk ?_
    | refine T_rt ?_
    | refine T_block ?_
    | refine T_ex ?_
    | refine Kt_then ?_
    | refine Kt_block ?_
    | refine Kr_then ?_
    | refine Kr_block ?_
    | refine Ke_here ?_
    | refine Ke_then ?_
    | refine Hid.mk ?_
    | refine Gs.mk (fun g => ?_) (fun g => ?_) <;> (try simp only [nm] at g) <;> try (exfalso; first | contradiction | omega)
    | refine Gr.mk (fun g => ?_) (fun g => ?_) <;> (try simp only [nm] at g) <;> try (exfalso; first | contradiction | omega)
    | (refine Run.of ?_; simp (maxSteps := 1000000) (disch := first | omega | assumption | (simp; done) | fail) [*])
  all_goals (refine Kx.mk ?_; refine owes_r (l := [.tmp 2]) (.inr rfl) hwf rfl (by first | (simp (maxDischargeDepth := 20) [*]; done) | (repeat (first | exact AS.Ext.refl _ | assumption | refine AS.Ext.bump ?_ | refine AS.Ext.setBox (by first | omega | (simp; omega) | (simp; done)) ?_))) ?_ <;> (try simp (maxDischargeDepth := 20) [resP, packed, plain1_agg, plain1_sl, bemp, and_assoc, aload, partOf, *]) <;> (try ((repeat' apply And.intro) <;> first | omega | fail)))
theorem tLower (H : AS) (c : Int) (hc : 0 ≤ c ∧ c < 256) : ACalls Tryz.prog 176 [.val (.int .u8 c)] H fun q H' => (∃ n : Int, q = .val (.int .u8 n) ∧ 0 ≤ n ∧ n < 256) ∧ H' = H := by
  refine ACalls_intro Tryz.func176 rfl (by kernel_rfl) (by simp) fun hwf hbel => ?_
  repeat' first
    | refine T_seq ?_
    | refine T_rgn ?_
    | refine T_cd ?_
    | refine T_sk ?_
    | refine T_rt ?_
    | refine T_block ?_
    | refine T_ex ?_
    | refine Kt_then ?_
    | refine Kt_block ?_
    | refine Kr_then ?_
    | refine Kr_block ?_
    | refine Ke_here ?_
    | refine Ke_then ?_
    | refine Hid.mk ?_
    | refine Gs.mk (fun g => ?_) (fun g => ?_) <;> (try simp only [nm] at g) <;> try (exfalso; first | contradiction | omega)
    | refine Gr.mk (fun g => ?_) (fun g => ?_) <;> (try simp only [nm] at g) <;> try (exfalso; first | contradiction | omega)
    | (refine Run.of ?_; simp (maxSteps := 1000000) (disch := first | omega | assumption | (simp; done) | fail) [*, wrap_u8])
  all_goals (refine Kx.mk ?_; refine owes_r (l := [.tmp 2]) (.inr rfl) hwf rfl (by first | (simp (maxDischargeDepth := 20) [*]; done) | (repeat (first | exact AS.Ext.refl _ | assumption | refine AS.Ext.bump ?_ | refine AS.Ext.setBox (by first | omega | (simp; omega) | (simp; done)) ?_))) ?_ <;> (try simp (maxDischargeDepth := 20) [resP, packed, plain1_agg, plain1_sl, bemp, and_assoc, aload, partOf, *]) <;> (try ((repeat' apply And.intro) <;> first | omega | fail)))
theorem tLeap (H : AS) (y : Int) (hy : 0 ≤ y ∧ y < 2 ^ 62) : ACalls Tryz.prog 179 [pi y] H fun q H' => (∃ b : Bool, q = pb b) ∧ H' = H := by
  refine ACalls_intro Tryz.func179 rfl (by kernel_rfl) (by simp) fun hwf hbel => ?_
  repeat' first
    | refine T_seq ?_
    | refine T_rgn ?_
    | refine T_cd ?_
    | refine T_sk ?_
    | refine T_rt ?_
    | refine T_block ?_
    | refine T_ex ?_
    | refine Kt_then ?_
    | refine Kt_block ?_
    | refine Kr_then ?_
    | refine Kr_block ?_
    | refine Ke_here ?_
    | refine Ke_then ?_
    | refine Hid.mk ?_
    | refine Gs.mk (fun g => ?_) (fun g => ?_) <;> (try simp only [nm] at g) <;> try (exfalso; first | contradiction | omega)
    | refine Gr.mk (fun g => ?_) (fun g => ?_) <;> (try simp only [nm] at g) <;> try (exfalso; first | contradiction | omega)
    | (refine Run.of ?_; simp (maxSteps := 1000000) (disch := first | omega | assumption | (simp; done) | fail) [*, idx9, cutAB, cutA, cutB, wrap_i64, wrap_nn, ext_size, beq_bytes, app_size, catIf, bemp])
  all_goals (refine Kx.mk ?_; refine owes_r (l := [.tmp 2]) (.inr rfl) hwf rfl (by first | (simp (maxDischargeDepth := 20) [*]; done) | (repeat (first | exact AS.Ext.refl _ | assumption | refine AS.Ext.bump ?_ | refine AS.Ext.setBox (by first | omega | (simp; omega) | (simp; done)) ?_))) ?_ <;> (try simp (maxDischargeDepth := 20) [resP, packed, plain1_agg, plain1_sl, bemp, and_assoc, aload, partOf, *]) <;> (try ((repeat' apply And.intro) <;> first | omega | fail)))
theorem tLength (H : AS) (y m : Int) (hy : 0 ≤ y ∧ y < 2 ^ 62) : ACalls Tryz.prog 178 [pi y, pi m] H fun q H' => (∃ n : Int, q = pi n ∧ 0 ≤ n ∧ n ≤ 31) ∧ H' = H := by
  refine ACalls_intro Tryz.func178 rfl (by kernel_rfl) (by simp) fun hwf hbel => ?_
  repeat' first
    | refine T_seq ?_
    | refine T_rgn ?_
    | refine T_cd ?_
    | refine T_sk ?_
    | refine T_rt ?_
    | refine T_block ?_
    | refine T_ex ?_
    | refine Kt_then ?_
    | refine Kt_block ?_
    | refine Kr_then ?_
    | refine Kr_block ?_
    | refine Ke_here ?_
    | refine Ke_then ?_
    | refine Hid.mk ?_
    | (refine callR (tLeap _ _ (by assumption)) ?_; rintro _ Hz ⟨⟨_, rfl⟩, hz⟩; subst Hz)
    | refine Gs.mk (fun g => ?_) (fun g => ?_) <;> (try simp only [nm] at g) <;> try (exfalso; first | contradiction | omega)
    | refine Gr.mk (fun g => ?_) (fun g => ?_) <;> (try simp only [nm] at g) <;> try (exfalso; first | contradiction | omega)
    | (refine Run.of ?_; simp (maxSteps := 1000000) (disch := first | omega | assumption | (simp; done) | fail) [*, idx9, cutAB, cutA, cutB, wrap_i64, wrap_nn, ext_size, beq_bytes, app_size, catIf, bemp])
  all_goals (refine Kx.mk ?_; refine owes_r (l := [.tmp 4]) (.inr rfl) hwf rfl (by first | (simp (maxDischargeDepth := 20) [*]; done) | (repeat (first | exact AS.Ext.refl _ | assumption | refine AS.Ext.bump ?_ | refine AS.Ext.setBox (by first | omega | (simp; omega) | (simp; done)) ?_))) ?_ <;> (try simp (maxDischargeDepth := 20) [resP, packed, plain1_agg, plain1_sl, bemp, and_assoc, aload, partOf, *]) <;> (try ((repeat' apply And.intro) <;> first | omega | fail)))
theorem tUnit (H : AS) (k : Int) : ACalls Tryz.prog 168 [pi k] H fun q H' => (∃ (w : ByteArray) (u b : Int), q = .tuple [ps w, pi u, pi b] ∧ 0 < u ∧ u ≤ 86400000000000) ∧ H' = H := by
  refine ACalls_intro Tryz.func168 rfl (by kernel_rfl) (by simp) fun hwf hbel => ?_
  repeat' first
    | refine T_seq ?_
    | refine T_rgn ?_
    | refine T_cd ?_
    | refine T_sk ?_
    | refine T_rt ?_
    | refine T_block ?_
    | refine T_ex ?_
    | refine Kt_then ?_
    | refine Kt_block ?_
    | refine Kr_then ?_
    | refine Kr_block ?_
    | refine Ke_here ?_
    | refine Ke_then ?_
    | refine Hid.mk ?_
    | refine Gs.mk (fun g => ?_) (fun g => ?_) <;> (try simp only [nm] at g) <;> try (exfalso; first | contradiction | omega)
    | refine Gr.mk (fun g => ?_) (fun g => ?_) <;> (try simp only [nm] at g) <;> try (exfalso; first | contradiction | omega)
    | (refine Run.of ?_; simp (maxSteps := 1000000) (disch := first | omega | assumption | (simp; done) | fail) [*, idx9, cutAB, cutA, cutB, wrap_i64, wrap_nn, ext_size, beq_bytes, app_size, catIf, bemp])
  all_goals (refine Kx.mk ?_; refine owes_r (l := [.tmp 2, .tmp 3, .tmp 4]) (.inr rfl) hwf rfl (by first | (simp (maxDischargeDepth := 20) [*]; done) | (repeat (first | exact AS.Ext.refl _ | assumption | refine AS.Ext.bump ?_ | refine AS.Ext.setBox (by first | omega | (simp; omega) | (simp; done)) ?_))) ?_ <;> (try simp (maxDischargeDepth := 20) [resP, packed, plain1_agg, plain1_sl, bemp, and_assoc, aload, partOf, *]) <;> (try ((repeat' apply And.intro) <;> first | omega | fail)))
theorem tPlus (H : AS) (n k u : Int) : ACalls Tryz.prog 169 [pi n, pi k, pi u] H fun q H' => (∃ (m : Int) (b : Bool), q = .tuple [pi m, pb b]) ∧ H' = H := by
  refine ACalls_intro Tryz.func169 rfl (by kernel_rfl) (by simp) fun hwf hbel => ?_
  repeat' first
    | refine T_seq ?_
    | refine T_rgn ?_
    | refine T_cd ?_
    | refine T_sk ?_
    | refine T_rt ?_
    | refine T_block ?_
    | refine T_ex ?_
    | refine Kt_then ?_
    | refine Kt_block ?_
    | refine Kr_then ?_
    | refine Kr_block ?_
    | refine Ke_here ?_
    | refine Ke_then ?_
    | refine Hid.mk ?_
    | refine Gs.mk (fun g => ?_) (fun g => ?_) <;> (try simp only [nm] at g) <;> try (exfalso; first | contradiction | omega)
    | refine Gr.mk (fun g => ?_) (fun g => ?_) <;> (try simp only [nm] at g) <;> try (exfalso; first | contradiction | omega)
    | (refine Run.of ?_; simp (maxSteps := 1000000) (disch := first | omega | assumption | (simp; done) | fail) [*, idx9, cutAB, cutA, cutB, wrap_i64, wrap_nn, ext_size, beq_bytes, app_size, catIf, bemp, ifNone])
  all_goals (refine Kx.mk ?_; refine owes_r (l := [.tmp 6, .tmp 7]) (.inr rfl) hwf rfl (by first | (simp (maxDischargeDepth := 20) [*]; done) | (repeat (first | exact AS.Ext.refl _ | assumption | refine AS.Ext.bump ?_ | refine AS.Ext.setBox (by first | omega | (simp; omega) | (simp; done)) ?_))) ?_ <;> (try simp (maxDischargeDepth := 20) [resP, packed, plain1_agg, plain1_sl, bemp, and_assoc, aload, partOf, *]) <;> (try ((repeat' apply And.intro) <;> first | omega | fail)))
theorem tAt (H : AS) (s : ByteArray) (p c : Int) (h0 : 0 ≤ p) : ACalls Tryz.prog 172 [ps s, pi p, .val (.int .u8 c)] H fun q H' => (∃ b : Bool, q = pb b) ∧ H' = H := by
  refine ACalls_intro Tryz.func172 rfl (by kernel_rfl) (by simp) fun hwf hbel => ?_
  repeat' first
    | refine T_seq ?_
    | refine T_rgn ?_
    | refine T_cd ?_
    | refine T_sk ?_
    | refine T_rt ?_
    | refine T_block ?_
    | refine T_ex ?_
    | refine Kt_then ?_
    | refine Kt_block ?_
    | refine Kr_then ?_
    | refine Kr_block ?_
    | refine Ke_here ?_
    | refine Ke_then ?_
    | refine Hid.mk ?_
    | refine Gs.mk (fun g => ?_) (fun g => ?_) <;> (try simp only [nm] at g) <;> try (exfalso; first | contradiction | omega)
    | refine Gr.mk (fun g => ?_) (fun g => ?_) <;> (try simp only [nm] at g) <;> try (exfalso; first | contradiction | omega)
    | (refine Run.of ?_; simp (maxSteps := 1000000) (disch := first | omega | assumption | (simp; done) | fail) [*, idx9, cutAB, cutA, cutB, wrap_i64, wrap_nn, ext_size, beq_bytes, app_size, catIf, bemp])
  all_goals (refine Kx.mk ?_; refine owes_r (l := [.tmp 6]) (.inr rfl) hwf rfl (by first | (simp (maxDischargeDepth := 20) [*]; done) | (repeat (first | exact AS.Ext.refl _ | assumption | refine AS.Ext.bump ?_ | refine AS.Ext.setBox (by first | omega | (simp; omega) | (simp; done)) ?_))) ?_ <;> (try simp (maxDischargeDepth := 20) [resP, packed, plain1_agg, plain1_sl, bemp, and_assoc, aload, partOf, *]) <;> (try ((repeat' apply And.intro) <;> first | omega | fail)))
theorem tRun (H : AS) (s : ByteArray) (a : Int) (hs : s.size ≤ 65536) (h0 : 0 ≤ a) (ha : a ≤ s.size) : ACalls Tryz.prog 165 [ps s, pi a] H fun q H' => (∃ e : Int, q = pi e ∧ a ≤ e ∧ e ≤ s.size) ∧ H' = H := by
  refine ACalls_intro Tryz.func165 rfl (by kernel_rfl) (by simp) fun hwf hbel => ?_
  repeat' first
    | refine T_seq ?_
    | refine T_rgn ?_
    | refine T_cd ?_
    | refine T_sk ?_
    | refine T_rt ?_
    | refine T_block ?_
    | refine T_ex ?_
    | refine Kt_then ?_
    | refine Kt_block ?_
    | refine Kr_then ?_
    | refine Kr_block ?_
    | refine Ke_here ?_
    | refine Ke_then ?_
    | refine Hid.mk ?_
    | (refine callR (tDigit _ _) ?_; rintro _ Hz ⟨⟨_, rfl, _⟩, hz⟩; subst Hz)
    | refine Gs.mk (fun g => ?_) (fun g => ?_) <;> (try simp only [nm] at g) <;> try (exfalso; first | contradiction | omega)
    | refine Gr.mk (fun g => ?_) (fun g => ?_) <;> (try simp only [nm] at g) <;> try (exfalso; first | contradiction | omega)
    | (refine Run.of ?_; simp (maxSteps := 1000000) (disch := first | omega | assumption | (simp; done) | fail) [*, idx9, cutAB, cutA, cutB, wrap_i64, wrap_nn, ext_size, beq_bytes, app_size, catIf, bemp])
  all_goals (try (refine Kx.mk ?_; refine owes_r (l := [.tmp 4]) (.inr rfl) hwf rfl (by first | (simp (maxDischargeDepth := 20) [*]; done) | (repeat (first | exact AS.Ext.refl _ | assumption | refine AS.Ext.bump ?_ | refine AS.Ext.setBox (by first | omega | (simp; omega) | (simp; done)) ?_))) ?_ <;> (try simp (maxDischargeDepth := 20) [resP, packed, plain1_agg, plain1_sl, bemp, and_assoc, aload, partOf, *]) <;> (try ((repeat' apply And.intro) <;> first | omega | fail))))
  refine T_lp (fun k F H' => ∃ e : Int, k = ((s.size : Int) - e).toNat ∧ a ≤ e ∧ e ≤ s.size ∧ F 0 = ps s ∧ F 1 = pi e ∧ H' = H) (((s.size : Int) - a).toNat) ?_ ?_
  · refine ⟨a, ?_⟩ <;> (repeat' apply And.intro) <;> first | omega | rfl | assumption | (exact ⟨_, rfl⟩) | (simp (disch := first | omega | assumption | (simp; done) | fail) [*, idx9, cutAB, cutA, cutB, wrap_i64, wrap_nn, ext_size, beq_bytes, app_size, catIf, bemp]; done) | (simp [*]; omega) | fail
  rintro k F H1 ⟨e, rfl, he1, he2, g0, ge, rfl⟩
  repeat' first
    | refine T_seq ?_
    | refine T_rgn ?_
    | refine T_cd ?_
    | refine T_sk ?_
    | refine T_rt ?_
    | refine T_block ?_
    | refine T_ex ?_
    | refine Kt_then ?_
    | refine Kt_block ?_
    | refine Kr_then ?_
    | refine Kr_block ?_
    | refine Kr_loop ?_
    | refine Ke_here ?_
    | refine Ke_then ?_
    | refine Ke_loop ?_
    | refine Ke_block ?_
    | refine Hid.mk ?_
    | (refine callR (tDigit _ _) ?_; rintro _ Hz ⟨⟨_, rfl, _⟩, hz⟩; subst Hz)
    | refine Gs.mk (fun g => ?_) (fun g => ?_) <;> (try simp only [nm] at g) <;> try (exfalso; first | contradiction | omega)
    | refine Gr.mk (fun g => ?_) (fun g => ?_) <;> (try simp only [nm] at g) <;> try (exfalso; first | contradiction | omega)
    | (refine Run.of ?_; simp (maxSteps := 1000000) (disch := first | omega | assumption | (simp; done) | fail) [*, idx9, cutAB, cutA, cutB, wrap_i64, wrap_nn, ext_size, beq_bytes, app_size, catIf, bemp])
  all_goals (try (refine Kx.mk ?_; refine owes_r (l := [.tmp 4]) (.inr rfl) hwf rfl (by first | (simp (maxDischargeDepth := 20) [*]; done) | (repeat (first | exact AS.Ext.refl _ | assumption | refine AS.Ext.bump ?_ | refine AS.Ext.setBox (by first | omega | (simp; omega) | (simp; done)) ?_))) ?_ <;> (try simp (maxDischargeDepth := 20) [resP, packed, plain1_agg, plain1_sl, bemp, and_assoc, aload, partOf, *]) <;> (try ((repeat' apply And.intro) <;> first | omega | fail))))
  all_goals first | (refine Kt_loop ⟨_, ?_, e + 1, rfl, ?_⟩ <;> (repeat' apply And.intro) <;> first | omega | rfl | assumption | (exact ⟨_, rfl⟩) | (simp (disch := first | omega | assumption | (simp; done) | fail) [*, idx9, cutAB, cutA, cutB, wrap_i64, wrap_nn, ext_size, beq_bytes, app_size, catIf, bemp]; done) | (simp [*]; omega) | fail) | skip
set_option maxHeartbeats 4000000
theorem tUnitAt (H : AS) (s : ByteArray) (a : Int) (hs : s.size ≤ 65536) (h0 : 0 ≤ a) (ha : a ≤ s.size) : ACalls Tryz.prog 167 [ps s, pi a] H fun q H' => (∃ k e : Int, q = .tuple [pi k, pi e] ∧ a ≤ e ∧ e ≤ s.size) ∧ H' = H := by
  refine ACalls_intro Tryz.func167 rfl (by kernel_rfl) (by simp) fun hwf hbel => ?_
  repeat' first
    | refine T_seq ?_
    | refine T_rgn ?_
    | refine T_cd ?_
    | refine T_sk ?_
    | refine T_rt ?_
    | refine T_block ?_
    | refine T_ex ?_
    | refine Kt_then ?_
    | refine Kt_block ?_
    | refine Kr_then ?_
    | refine Kr_block ?_
    | refine Ke_here ?_
    | refine Ke_then ?_
    | refine Hid.mk ?_
    | (refine eitherK.raw ?_; simp (maxSteps := 1000000) (disch := first | omega | assumption | (simp; done) | fail) [*, idx9, cutAB, cutA, cutB, wrap_i64, wrap_nn, ext_size, beq_bytes, app_size, catIf, bemp, ifSome, conv2009, aToStringM, under200, under9, under5, bytesOfRows])
    | (refine callR (tLower _ _ (by first | exact byteAt_lt _ _ | omega)) ?_; rintro _ Hz ⟨⟨lw, rfl, hl0, hl1⟩, hz⟩; subst Hz)
    | (refine callR (tUnit _ _) ?_; rintro _ Hz ⟨⟨_, _, _, rfl, _, _⟩, hz⟩; subst Hz)
    | refine Gs.mk (fun g => ?_) (fun g => ?_) <;> (try simp only [nm] at g) <;> try (exfalso; first | contradiction | omega)
    | refine Gr.mk (fun g => ?_) (fun g => ?_) <;> (try simp only [nm] at g) <;> try (exfalso; first | contradiction | omega)
    | (refine Run.of ?_; simp (maxSteps := 1000000) (disch := first | omega | assumption | (simp; done) | fail) [*, idx9, cutAB, cutA, cutB, wrap_i64, wrap_nn, ext_size, beq_bytes, app_size, catIf, bemp, ifSome, conv2009, aToStringM, under200, under9, under5, bytesOfRows])
  all_goals (try (refine Kx.mk ?_; refine owes_r (l := [.tmp 4, .tmp 5]) (.inr rfl) hwf rfl (by first | (simp (maxDischargeDepth := 20) [*]; done) | (repeat (first | exact AS.Ext.refl _ | assumption | refine AS.Ext.bump ?_ | refine AS.Ext.setBox (by first | omega | (simp; omega) | (simp; done)) ?_))) ?_ <;> (try simp (maxDischargeDepth := 20) [resP, packed, plain1_agg, plain1_sl, bemp, and_assoc, aload, partOf, *]) <;> (try ((repeat' apply And.intro) <;> first | omega | fail))))
  refine T_lp (fun k F H' => ∃ e : Int, k = ((s.size : Int) - e).toNat ∧ F 0 = ps s ∧ F 1 = pi a ∧ F 6 = pi e ∧ a ≤ e ∧ e ≤ s.size ∧ (∃ w : ByteArray, F 7 = ps w ∧ w.size ≤ e) ∧ H.Ext H') (((s.size : Int) - a).toNat) ?_ ?_
  · refine ⟨a, ?_⟩ <;> (repeat' apply And.intro) <;> first | omega | rfl | assumption | (exact ⟨_, rfl⟩) | (simp (disch := first | omega | assumption | (simp; done) | fail) [*, idx9, cutAB, cutA, cutB, wrap_i64, wrap_nn, ext_size, beq_bytes, app_size, catIf, bemp]; done) | exact ⟨_, rfl, by simp; omega⟩ | exact AS.Ext.refl _ | (simp [*]; omega) | fail
  rintro k F H1 ⟨e, rfl, g0, g1, g6, he1, he2, ⟨w, g7, hw⟩, hx⟩
  have hnx := hx.next
  repeat' first
    | refine T_seq ?_
    | refine T_rgn ?_
    | refine T_cd ?_
    | refine T_sk ?_
    | refine T_rt ?_
    | refine T_block ?_
    | refine T_ex ?_
    | refine Kt_then ?_
    | refine Kt_block ?_
    | refine Kr_then ?_
    | refine Kr_block ?_
    | refine Kr_loop ?_
    | refine Ke_here ?_
    | refine Ke_then ?_
    | refine Ke_loop ?_
    | refine Ke_block ?_
    | refine Hid.mk ?_
    | (refine eitherK.raw ?_; simp (maxSteps := 1000000) (disch := first | omega | assumption | (simp; done) | fail) [*, idx9, cutAB, cutA, cutB, wrap_i64, wrap_nn, ext_size, beq_bytes, app_size, catIf, bemp, ifSome, conv2009, aToStringM, under200, under9, under5, bytesOfRows])
    | (refine callR (tLower _ _ (by first | exact byteAt_lt _ _ | omega)) ?_; rintro _ Hz ⟨⟨lw, rfl, hl0, hl1⟩, hz⟩; subst Hz)
    | (refine callR (tUnit _ _) ?_; rintro _ Hz ⟨⟨_, _, _, rfl, _, _⟩, hz⟩; subst Hz)
    | refine Gs.mk (fun g => ?_) (fun g => ?_) <;> (try simp only [nm] at g) <;> try (exfalso; first | contradiction | omega)
    | refine Gr.mk (fun g => ?_) (fun g => ?_) <;> (try simp only [nm] at g) <;> try (exfalso; first | contradiction | omega)
    | (refine Run.of ?_; simp (maxSteps := 1000000) (disch := first | omega | assumption | (simp; done) | fail) [*, idx9, cutAB, cutA, cutB, wrap_i64, wrap_nn, ext_size, beq_bytes, app_size, catIf, bemp, ifSome, conv2009, aToStringM, under200, under9, under5, bytesOfRows])
  all_goals (try (refine Kx.mk ?_; refine owes_r (l := [.tmp 4, .tmp 5]) (.inr rfl) hwf rfl (by first | (simp (maxDischargeDepth := 20) [*]; done) | (repeat (first | exact AS.Ext.refl _ | assumption | refine AS.Ext.bump ?_ | refine AS.Ext.setBox (by first | omega | (simp; omega) | (simp; done)) ?_))) ?_ <;> (try simp (maxDischargeDepth := 20) [resP, packed, plain1_agg, plain1_sl, bemp, and_assoc, aload, partOf, *]) <;> (try ((repeat' apply And.intro) <;> first | omega | fail))))
  all_goals first | (refine Kt_loop ⟨_, ?_, e + 1, rfl, ?_⟩ <;> (repeat' apply And.intro) <;> first | omega | rfl | assumption | (exact ⟨_, rfl⟩) | (simp (disch := first | omega | assumption | (simp; done) | fail) [*, idx9, cutAB, cutA, cutB, wrap_i64, wrap_nn, ext_size, beq_bytes, app_size, catIf, bemp]; done) | (exact ⟨_, rfl, by simp; omega⟩) | ((repeat (first | exact AS.Ext.refl _ | assumption | refine AS.Ext.bump ?_ | refine AS.Ext.setBox (by first | omega | (simp; omega) | (simp; done)) ?_)); done) | (simp [*]; omega) | fail) | skip
  all_goals (try (refine Kx.mk ?_; refine owes_r (l := [.tmp 4, .tmp 5]) (.inr rfl) hwf rfl (by first | (simp (maxDischargeDepth := 20) [*]; done) | (repeat (first | exact AS.Ext.refl _ | assumption | refine AS.Ext.bump ?_ | refine AS.Ext.setBox (by first | omega | (simp; omega) | (simp; done)) ?_))) ?_ <;> (try simp (maxDischargeDepth := 20) [resP, packed, plain1_agg, plain1_sl, bemp, and_assoc, aload, partOf, *]) <;> (try ((repeat' apply And.intro) <;> first | omega | fail))))
  all_goals (
    refine T_lp (fun k F H' => ∃ e : Int, k = (7 - e).toNat ∧ F 0 = ps s ∧ F 1 = pi a ∧ F 8 = pi e ∧ 0 ≤ e ∧ e ≤ 7 ∧ (∃ x : Int, F 6 = pi x ∧ a ≤ x ∧ x ≤ s.size) ∧ (∃ w : ByteArray, F 7 = ps w) ∧ H.Ext H') ((7 - 0 : Int).toNat) ?_ ?_
    · refine ⟨0, ?_⟩ <;> (repeat' apply And.intro) <;> first | omega | rfl | assumption | (exact ⟨_, rfl⟩) | (simp (disch := first | omega | assumption | (simp; done) | fail) [*, idx9, cutAB, cutA, cutB, wrap_i64, wrap_nn, ext_size, beq_bytes, app_size, catIf, bemp]; done) | exact ⟨_, rfl, by omega, by omega⟩ | ((repeat (first | exact AS.Ext.refl _ | assumption | refine AS.Ext.bump ?_ | refine AS.Ext.setBox (by first | omega | (simp; omega) | (simp; done)) ?_)); done) | (simp [*]; omega) | fail
    rintro k F H1 ⟨e, rfl, g0, g1, g8, he1, he2, ⟨x, g6, hx1, hx2⟩, ⟨w, g7⟩, hx⟩
    have hnx := hx.next
    repeat' first
      | refine T_seq ?_
      | refine T_rgn ?_
      | refine T_cd ?_
      | refine T_sk ?_
      | refine T_rt ?_
      | refine T_block ?_
      | refine T_ex ?_
      | refine Kt_then ?_
      | refine Kt_block ?_
      | refine Kr_then ?_
      | refine Kr_block ?_
      | refine Kr_loop ?_
      | refine Ke_here ?_
      | refine Ke_then ?_
      | refine Ke_loop ?_
      | refine Ke_block ?_
      | refine Hid.mk ?_
      | (refine eitherK.raw ?_; simp (maxSteps := 1000000) (disch := first | omega | assumption | (simp; done) | fail) [*, idx9, cutAB, cutA, cutB, wrap_i64, wrap_nn, ext_size, beq_bytes, app_size, catIf, bemp, ifSome, conv2009, aToStringM, under200, under9, under5, bytesOfRows])
      | (refine callR (tLower _ _ (by first | exact byteAt_lt _ _ | omega)) ?_; rintro _ Hz ⟨⟨lw, rfl, hl0, hl1⟩, hz⟩; subst Hz)
      | (refine callR (tUnit _ _) ?_; rintro _ Hz ⟨⟨_, _, _, rfl, _, _⟩, hz⟩; subst Hz)
      | refine Gs.mk (fun g => ?_) (fun g => ?_) <;> (try simp only [nm] at g) <;> try (exfalso; first | contradiction | omega)
      | refine Gr.mk (fun g => ?_) (fun g => ?_) <;> (try simp only [nm] at g) <;> try (exfalso; first | contradiction | omega)
      | (refine Run.of ?_; simp (maxSteps := 1000000) (disch := first | omega | assumption | (simp; done) | fail) [*, idx9, cutAB, cutA, cutB, wrap_i64, wrap_nn, ext_size, beq_bytes, app_size, catIf, bemp, ifSome, conv2009, aToStringM, under200, under9, under5, bytesOfRows])
    all_goals (try (refine Kx.mk ?_; refine owes_r (l := [.tmp 4, .tmp 5]) (.inr rfl) hwf rfl (by first | (simp (maxDischargeDepth := 20) [*]; done) | (repeat (first | exact AS.Ext.refl _ | assumption | refine AS.Ext.bump ?_ | refine AS.Ext.setBox (by first | omega | (simp; omega) | (simp; done)) ?_))) ?_ <;> (try simp (maxDischargeDepth := 20) [resP, packed, plain1_agg, plain1_sl, bemp, and_assoc, aload, partOf, *]) <;> (try ((repeat' apply And.intro) <;> first | omega | fail))))
    all_goals first | (refine Kt_loop ⟨_, ?_, e + 1, rfl, ?_⟩ <;> (repeat' apply And.intro) <;> first | omega | rfl | assumption | (exact ⟨_, rfl⟩) | (simp (disch := first | omega | assumption | (simp; done) | fail) [*, idx9, cutAB, cutA, cutB, wrap_i64, wrap_nn, ext_size, beq_bytes, app_size, catIf, bemp]; done) | (exact ⟨x, by simp [*], by omega, by omega⟩) | exact ⟨w, by simp [*]⟩ | ((repeat (first | exact AS.Ext.refl _ | assumption | refine AS.Ext.bump ?_ | refine AS.Ext.setBox (by first | omega | (simp; omega) | (simp; done)) ?_)); done) | (simp [*]; omega) | fail) | skip)
set_option maxHeartbeats 4000000
theorem tNumber (H : AS) (s : ByteArray) (hs : s.size ≤ 65536) : ACalls Tryz.prog 166 [ps s] H fun q H' => (∃ (m' : Int) (b : Bool), q = .tuple [pi m', pb b] ∧ (b = true → 0 < s.size)) ∧ H' = H := by
  refine ACalls_intro Tryz.func166 rfl (by kernel_rfl) (by simp) fun hwf hbel => ?_
  repeat' first
    | refine T_seq ?_
    | refine T_rgn ?_
    | refine T_cd ?_
    | refine T_sk ?_
    | refine T_rt ?_
    | refine T_block ?_
    | refine T_ex ?_
    | refine Kt_then ?_
    | refine Kt_block ?_
    | refine Kr_then ?_
    | refine Kr_block ?_
    | refine Ke_here ?_
    | refine Ke_then ?_
    | refine Hid.mk ?_
    | refine Gs.mk (fun g => ?_) (fun g => ?_) <;> (try simp only [nm] at g) <;> try (exfalso; first | contradiction | omega)
    | refine Gr.mk (fun g => ?_) (fun g => ?_) <;> (try simp only [nm] at g) <;> try (exfalso; first | contradiction | omega)
    | (refine Run.of ?_; simp (maxSteps := 1000000) (disch := first | omega | assumption | (simp; done) | fail) [*, idx9, cutAB, cutA, cutB, wrap_i64, wrap_nn, ext_size, beq_bytes, app_size, catIf, bemp, ifNone])
  all_goals (try (refine Kx.mk ?_; refine owes_r (l := [.tmp 2, .tmp 3]) (.inr rfl) hwf rfl (by first | (simp (maxDischargeDepth := 20) [*]; done) | (repeat (first | exact AS.Ext.refl _ | assumption | refine AS.Ext.bump ?_ | refine AS.Ext.setBox (by first | omega | (simp; omega) | (simp; done)) ?_))) ?_ <;> (try simp (maxDischargeDepth := 20) [resP, packed, plain1_agg, plain1_sl, bemp, and_assoc, aload, partOf, *]) <;> (try ((repeat' apply And.intro) <;> first | omega | fail))))
  refine T_lp (fun k F H' => ∃ e : Int, k = ((s.size : Int) - e).toNat ∧ F 0 = ps s ∧ F 5 = pi e ∧ 0 ≤ e ∧ e ≤ s.size ∧ (∃ n : Int, F 4 = pi n) ∧ H = H') (((s.size : Int) - 0).toNat) ?_ ?_
  · refine ⟨0, ?_⟩ <;> (repeat' apply And.intro) <;> first | omega | rfl | assumption | (exact ⟨_, rfl⟩) | (simp (disch := first | omega | assumption | (simp; done) | fail) [*, idx9, cutAB, cutA, cutB, wrap_i64, wrap_nn, ext_size, beq_bytes, app_size, catIf, bemp]; done) | (simp [*]; omega) | fail
  rintro k F H1 ⟨e, rfl, g0, g5, he1, he2, ⟨n, g4⟩, rfl⟩
  repeat' first
    | refine T_seq ?_
    | refine T_rgn ?_
    | refine T_cd ?_
    | refine T_sk ?_
    | refine T_rt ?_
    | refine T_block ?_
    | refine T_ex ?_
    | refine Kt_then ?_
    | refine Kt_block ?_
    | refine Kr_then ?_
    | refine Kr_block ?_
    | refine Kr_loop ?_
    | refine Ke_here ?_
    | refine Ke_then ?_
    | refine Ke_loop ?_
    | refine Ke_block ?_
    | refine Hid.mk ?_
    | refine Gs.mk (fun g => ?_) (fun g => ?_) <;> (try simp only [nm] at g) <;> try (exfalso; first | contradiction | omega)
    | refine Gr.mk (fun g => ?_) (fun g => ?_) <;> (try simp only [nm] at g) <;> try (exfalso; first | contradiction | omega)
    | (refine Run.of ?_; simp (maxSteps := 1000000) (disch := first | omega | assumption | (simp; done) | fail) [*, idx9, cutAB, cutA, cutB, wrap_i64, wrap_nn, ext_size, beq_bytes, app_size, catIf, bemp, ifNone])
  all_goals (try (refine Kx.mk ?_; refine owes_r (l := [.tmp 2, .tmp 3]) (.inr rfl) hwf rfl (by first | (simp (maxDischargeDepth := 20) [*]; done) | (repeat (first | exact AS.Ext.refl _ | assumption | refine AS.Ext.bump ?_ | refine AS.Ext.setBox (by first | omega | (simp; omega) | (simp; done)) ?_))) ?_ <;> (try simp (maxDischargeDepth := 20) [resP, packed, plain1_agg, plain1_sl, bemp, and_assoc, aload, partOf, *]) <;> (try ((repeat' apply And.intro) <;> first | omega | fail))))
  all_goals first | (refine Kt_loop ⟨_, ?_, e + 1, rfl, ?_⟩ <;> (repeat' apply And.intro) <;> first | omega | rfl | assumption | (exact ⟨_, rfl⟩) | (simp (disch := first | omega | assumption | (simp; done) | fail) [*, idx9, cutAB, cutA, cutB, wrap_i64, wrap_nn, ext_size, beq_bytes, app_size, catIf, bemp]; done) | (simp [*]; omega) | fail) | skip
theorem tDays (H : AS) (y m d : Int) : ACalls Tryz.prog 173 [pi y, pi m, pi d] H fun q H' => (∃ (m' : Int) (b : Bool), q = .tuple [pi m', pb b]) ∧ H' = H := by
  refine ACalls_intro Tryz.func173 rfl (by kernel_rfl) (by simp) fun hwf hbel => ?_
  repeat' first
    | refine T_seq ?_
    | refine T_rgn ?_
    | refine T_cd ?_
    | refine T_sk ?_
    | refine T_rt ?_
    | refine T_block ?_
    | refine T_ex ?_
    | refine Kt_then ?_
    | refine Kt_block ?_
    | refine Kr_then ?_
    | refine Kr_block ?_
    | refine Ke_here ?_
    | refine Ke_then ?_
    | refine Hid.mk ?_
    | (refine callR (tLength _ _ _ (by omega)) ?_; rintro _ Hz ⟨⟨_, rfl, _, _⟩, hz⟩; subst Hz)
    | (refine callR (tLeap _ _ (by omega)) ?_; rintro _ Hz ⟨⟨_, rfl⟩, hz⟩; subst Hz)
    | refine Gs.mk (fun g => ?_) (fun g => ?_) <;> (try simp only [nm] at g) <;> try (exfalso; first | contradiction | omega)
    | refine Gr.mk (fun g => ?_) (fun g => ?_) <;> (try simp only [nm] at g) <;> try (exfalso; first | contradiction | omega)
    | (refine Run.of ?_; simp (maxSteps := 1000000) (disch := first | omega | assumption | (simp; done) | fail) [*, idx9, cutAB, cutA, cutB, wrap_i64, wrap_nn, ext_size, beq_bytes, app_size, catIf, bemp])
  all_goals (try (refine Kx.mk ?_; refine owes_r (l := [.tmp 6, .tmp 7]) (.inr rfl) hwf rfl (by first | (simp (maxDischargeDepth := 20) [*]; done) | (repeat (first | exact AS.Ext.refl _ | assumption | refine AS.Ext.bump ?_ | refine AS.Ext.setBox (by first | omega | (simp; omega) | (simp; done)) ?_))) ?_ <;> (try simp (maxDischargeDepth := 20) [resP, packed, plain1_agg, plain1_sl, bemp, and_assoc, aload, partOf, *]) <;> (try ((repeat' apply And.intro) <;> first | omega | fail))))
  refine T_lp (fun k F H' => ∃ e : Int, k = (m - e).toNat ∧ F 0 = pi y ∧ F 1 = pi m ∧ F 9 = pi e ∧ 1 ≤ e ∧ 1970 ≤ y ∧ y ≤ 2199 ∧ m ≤ 12 ∧ (∃ n : Int, F 8 = pi n) ∧ H = H') ((m - 1).toNat) ?_ ?_
  · refine ⟨1, ?_⟩ <;> (repeat' apply And.intro) <;> first | omega | rfl | assumption | (exact ⟨_, rfl⟩) | (simp (disch := first | omega | assumption | (simp; done) | fail) [*, idx9, cutAB, cutA, cutB, wrap_i64, wrap_nn, ext_size, beq_bytes, app_size, catIf, bemp]; done) | (simp [*]; omega) | fail
  rintro k F H1 ⟨e, rfl, g0, g1, g9, he1, hy1, hy2, hm, ⟨n, g8⟩, rfl⟩
  repeat' first
    | refine T_seq ?_
    | refine T_rgn ?_
    | refine T_cd ?_
    | refine T_sk ?_
    | refine T_rt ?_
    | refine T_block ?_
    | refine T_ex ?_
    | refine Kt_then ?_
    | refine Kt_block ?_
    | refine Kr_then ?_
    | refine Kr_block ?_
    | refine Kr_loop ?_
    | refine Ke_here ?_
    | refine Ke_then ?_
    | refine Ke_loop ?_
    | refine Ke_block ?_
    | refine Hid.mk ?_
    | (refine callR (tLength _ _ _ (by omega)) ?_; rintro _ Hz ⟨⟨_, rfl, _, _⟩, hz⟩; subst Hz)
    | (refine callR (tLeap _ _ (by omega)) ?_; rintro _ Hz ⟨⟨_, rfl⟩, hz⟩; subst Hz)
    | refine Gs.mk (fun g => ?_) (fun g => ?_) <;> (try simp only [nm] at g) <;> try (exfalso; first | contradiction | omega)
    | refine Gr.mk (fun g => ?_) (fun g => ?_) <;> (try simp only [nm] at g) <;> try (exfalso; first | contradiction | omega)
    | (refine Run.of ?_; simp (maxSteps := 1000000) (disch := first | omega | assumption | (simp; done) | fail) [*, idx9, cutAB, cutA, cutB, wrap_i64, wrap_nn, ext_size, beq_bytes, app_size, catIf, bemp])
  all_goals (try (refine Kx.mk ?_; refine owes_r (l := [.tmp 6, .tmp 7]) (.inr rfl) hwf rfl (by first | (simp (maxDischargeDepth := 20) [*]; done) | (repeat (first | exact AS.Ext.refl _ | assumption | refine AS.Ext.bump ?_ | refine AS.Ext.setBox (by first | omega | (simp; omega) | (simp; done)) ?_))) ?_ <;> (try simp (maxDischargeDepth := 20) [resP, packed, plain1_agg, plain1_sl, bemp, and_assoc, aload, partOf, *]) <;> (try ((repeat' apply And.intro) <;> first | omega | fail))))
  all_goals first | (refine Kt_loop ⟨_, ?_, e + 1, rfl, ?_⟩ <;> (repeat' apply And.intro) <;> first | omega | rfl | assumption | (exact ⟨_, rfl⟩) | (simp (disch := first | omega | assumption | (simp; done) | fail) [*, idx9, cutAB, cutA, cutB, wrap_i64, wrap_nn, ext_size, beq_bytes, app_size, catIf, bemp]; done) | (simp [*]; omega) | fail) | skip
  all_goals (try (refine Kx.mk ?_; refine owes_r (l := [.tmp 6, .tmp 7]) (.inr rfl) hwf rfl (by first | (simp (maxDischargeDepth := 20) [*]; done) | (repeat (first | exact AS.Ext.refl _ | assumption | refine AS.Ext.bump ?_ | refine AS.Ext.setBox (by first | omega | (simp; omega) | (simp; done)) ?_))) ?_ <;> (try simp (maxDischargeDepth := 20) [resP, packed, plain1_agg, plain1_sl, bemp, and_assoc, aload, partOf, *]) <;> (try ((repeat' apply And.intro) <;> first | omega | fail))))
  refine T_lp (fun k F H' => ∃ e : Int, k = (y - e).toNat ∧ F 0 = pi y ∧ F 10 = pi e ∧ 1970 ≤ e ∧ y ≤ 2199 ∧ (∃ n : Int, F 8 = pi n) ∧ H = H') ((y - 1970).toNat) ?_ ?_
  · refine ⟨1970, ?_⟩ <;> (repeat' apply And.intro) <;> first | omega | rfl | assumption | (exact ⟨_, rfl⟩) | (simp (disch := first | omega | assumption | (simp; done) | fail) [*, idx9, cutAB, cutA, cutB, wrap_i64, wrap_nn, ext_size, beq_bytes, app_size, catIf, bemp]; done) | (simp [*]; omega) | fail
  rintro k F H1 ⟨e, rfl, g0, g10, he1, hy2, ⟨n, g8⟩, rfl⟩
  repeat' first
    | refine T_seq ?_
    | refine T_rgn ?_
    | refine T_cd ?_
    | refine T_sk ?_
    | refine T_rt ?_
    | refine T_block ?_
    | refine T_ex ?_
    | refine Kt_then ?_
    | refine Kt_block ?_
    | refine Kr_then ?_
    | refine Kr_block ?_
    | refine Kr_loop ?_
    | refine Ke_here ?_
    | refine Ke_then ?_
    | refine Ke_loop ?_
    | refine Ke_block ?_
    | refine Hid.mk ?_
    | (refine callR (tLength _ _ _ (by omega)) ?_; rintro _ Hz ⟨⟨_, rfl, _, _⟩, hz⟩; subst Hz)
    | (refine callR (tLeap _ _ (by omega)) ?_; rintro _ Hz ⟨⟨_, rfl⟩, hz⟩; subst Hz)
    | refine Gs.mk (fun g => ?_) (fun g => ?_) <;> (try simp only [nm] at g) <;> try (exfalso; first | contradiction | omega)
    | refine Gr.mk (fun g => ?_) (fun g => ?_) <;> (try simp only [nm] at g) <;> try (exfalso; first | contradiction | omega)
    | (refine Run.of ?_; simp (maxSteps := 1000000) (disch := first | omega | assumption | (simp; done) | fail) [*, idx9, cutAB, cutA, cutB, wrap_i64, wrap_nn, ext_size, beq_bytes, app_size, catIf, bemp])
  all_goals (try (refine Kx.mk ?_; refine owes_r (l := [.tmp 6, .tmp 7]) (.inr rfl) hwf rfl (by first | (simp (maxDischargeDepth := 20) [*]; done) | (repeat (first | exact AS.Ext.refl _ | assumption | refine AS.Ext.bump ?_ | refine AS.Ext.setBox (by first | omega | (simp; omega) | (simp; done)) ?_))) ?_ <;> (try simp (maxDischargeDepth := 20) [resP, packed, plain1_agg, plain1_sl, bemp, and_assoc, aload, partOf, *]) <;> (try ((repeat' apply And.intro) <;> first | omega | fail))))
  all_goals first | (refine Kt_loop ⟨_, ?_, e + 1, rfl, ?_⟩ <;> (repeat' apply And.intro) <;> first | omega | rfl | assumption | (exact ⟨_, rfl⟩) | (simp (disch := first | omega | assumption | (simp; done) | fail) [*, idx9, cutAB, cutA, cutB, wrap_i64, wrap_nn, ext_size, beq_bytes, app_size, catIf, bemp]; done) | (simp [*]; omega) | fail) | skip
set_option maxHeartbeats 4000000
theorem tmodOk (a c : Int) (ha : 0 < a) (hc : 0 < c) : 0 ≤ a.tmod c ∧ a.tmod c < c := by
  rw [Int.tmod_eq_emod_of_nonneg (by omega)]
  exact ⟨Int.emod_nonneg a (by omega), Int.emod_lt_of_pos a hc⟩
theorem tCommon (H : AS) (u t : Int) (hu : 0 < u ∧ u < 2 ^ 62) (ht : 0 < t ∧ t < 2 ^ 62) : ACalls Tryz.prog 177 [pi u, pi t] H fun q H' => (∃ g : Int, q = pi g ∧ 0 < g ∧ g ≤ t) ∧ H' = H := by
  refine ACalls_intro Tryz.func177 rfl (by kernel_rfl) (by simp) fun hwf hbel => ?_
  repeat' first
    | refine T_seq ?_
    | refine T_rgn ?_
    | refine T_cd ?_
    | refine T_sk ?_
    | refine T_rt ?_
    | refine T_block ?_
    | refine T_ex ?_
    | refine Kt_then ?_
    | refine Kt_block ?_
    | refine Kr_then ?_
    | refine Kr_block ?_
    | refine Ke_here ?_
    | refine Ke_then ?_
    | refine Hid.mk ?_
    | refine T_dr (id := 2) (fun _ => True) [] (.free 0 (.free 1 (.free 2 (.free 3 (.free 4 (.free 5 .done)))))) mix ?_
    | refine Gs.mk (fun g => ?_) (fun g => ?_) <;> (try simp only [nm] at g) <;> try (exfalso; first | contradiction | omega)
    | refine Gr.mk (fun g => ?_) (fun g => ?_) <;> (try simp only [nm] at g) <;> try (exfalso; first | contradiction | omega)
    | (refine Run.of ?_; simp (maxSteps := 1000000) (disch := first | omega | assumption | (simp; done) | fail) [*, idx9, cutAB, cutA, cutB, wrap_i64, wrap_nn, ext_size, beq_bytes, app_size, catIf, bemp, ifNone])
  all_goals (try (refine Kx.mk ?_; refine owes_r (l := [.tmp 4]) (.inr rfl) hwf rfl (by first | (simp (maxDischargeDepth := 20) [*]; done) | (repeat (first | exact AS.Ext.refl _ | assumption | refine AS.Ext.bump ?_ | refine AS.Ext.setBox (by first | omega | (simp; omega) | (simp; done)) ?_))) ?_ <;> (try simp (maxDischargeDepth := 20) [resP, packed, plain1_agg, plain1_sl, bemp, and_assoc, aload, partOf, *]) <;> (try ((repeat' apply And.intro) <;> first | omega | fail))))
  refine T_lp (fun k F H' => ∃ a c : Int, k = c.toNat ∧ F 0 = pi a ∧ F 1 = pi c ∧ 0 < a ∧ 0 ≤ c ∧ a < 2 ^ 62 ∧ c < 2 ^ 62 ∧ (c = t ∨ a ≤ t ∧ c < a) ∧ H = H') (t.toNat) ?_ ?_
  · refine ⟨u, t, ?_⟩ <;> (repeat' apply And.intro) <;> first | omega | rfl | assumption | (exact ⟨_, rfl⟩) | (simp (disch := first | omega | assumption | (simp; done) | fail) [*, idx9, cutAB, cutA, cutB, wrap_i64, wrap_nn, ext_size, beq_bytes, app_size, catIf, bemp]; done) | (simp [*]; omega) | fail
  rintro k F H1 ⟨a, c, rfl, g0, g1, ha0, hc0, ha1, hc1, hc, rfl⟩
  repeat' first
    | refine T_seq ?_
    | refine T_rgn ?_
    | refine T_cd ?_
    | refine T_sk ?_
    | refine T_rt ?_
    | refine T_block ?_
    | refine T_ex ?_
    | refine Kt_then ?_
    | refine Kt_block ?_
    | refine Kr_then ?_
    | refine Kr_block ?_
    | refine Kr_loop ?_
    | refine Ke_here ?_
    | refine Ke_then ?_
    | refine Ke_loop ?_
    | refine Ke_block ?_
    | refine Hid.mk ?_
    | refine T_dr (id := 2) (fun _ => True) [] (.free 0 (.free 1 (.free 2 (.free 3 (.free 4 (.free 5 .done)))))) mix ?_
    | refine Gs.mk (fun g => ?_) (fun g => ?_) <;> (try simp only [nm] at g) <;> try (exfalso; first | contradiction | omega)
    | refine Gr.mk (fun g => ?_) (fun g => ?_) <;> (try simp only [nm] at g) <;> try (exfalso; first | contradiction | omega)
    | (refine Run.of ?_; simp (maxSteps := 1000000) (disch := first | omega | assumption | (simp; done) | fail) [*, idx9, cutAB, cutA, cutB, wrap_i64, wrap_nn, ext_size, beq_bytes, app_size, catIf, bemp, ifNone])
  all_goals (try (refine Kx.mk ?_; refine owes_r (l := [.tmp 4]) (.inr rfl) hwf rfl (by first | (simp (maxDischargeDepth := 20) [*]; done) | (repeat (first | exact AS.Ext.refl _ | assumption | refine AS.Ext.bump ?_ | refine AS.Ext.setBox (by first | omega | (simp; omega) | (simp; done)) ?_))) ?_ <;> (try simp (maxDischargeDepth := 20) [resP, packed, plain1_agg, plain1_sl, bemp, and_assoc, aload, partOf, *]) <;> (try ((repeat' apply And.intro) <;> first | omega | fail))))
  all_goals first | (refine Kt_loop ⟨_, ?_, c, a.tmod c, rfl, ?_⟩ <;> (have hm := tmodOk a c ha0 (by omega)) <;> (repeat' apply And.intro) <;> first | omega | (simp (disch := first | omega | assumption) [*, wrap_i64]; done) | fail) | skip
set_option maxHeartbeats 4000000
theorem p10_bd : ∀ i : Nat, i ≤ 16 → 0 < (10 : Int) ^ i ∧ (10 : Int) ^ i ≤ 10000000000000000 := by decide
theorem tdiv_pos (t g : Int) (hg : 0 < g) (h : g ≤ t) : 0 < t.tdiv g := by
  rw [Int.tdiv_eq_ediv_of_nonneg (by omega)]
  have := (Int.le_ediv_iff_mul_le hg (a := 1) (b := t)).2 (by omega)
  omega
theorem tdiv_le (t g : Int) (hg : 0 < g) (h : 0 ≤ t) : 0 ≤ t.tdiv g ∧ t.tdiv g ≤ t := by
  rw [Int.tdiv_eq_ediv_of_nonneg h]
  exact ⟨Int.ediv_nonneg h (by omega), Int.ediv_le_self _ h⟩
theorem tFraction (H : AS) (s : ByteArray) (u : Int) (hs : s.size ≤ 65536) (hu : 0 < u ∧ u ≤ 86400000000000) : ACalls Tryz.prog 170 [ps s, pi u] H fun q H' => (∃ (m' : Int) (b : Bool), q = .tuple [pi m', pb b]) ∧ H' = H := by
  refine ACalls_intro Tryz.func170 rfl (by kernel_rfl) (by simp) fun hwf hbel => ?_
  repeat' first
    | refine T_seq ?_
    | refine T_rgn ?_
    | refine T_cd ?_
    | refine T_sk ?_
    | refine T_rt ?_
    | refine T_block ?_
    | refine T_ex ?_
    | refine Kt_then ?_
    | refine Kt_block ?_
    | refine Kr_then ?_
    | refine Kr_block ?_
    | refine Ke_here ?_
    | refine Ke_then ?_
    | refine Hid.mk ?_
    | refine T_dr (id := 15) (fun _ => True) [] (.free 0 (.free 1 (.free 2 (.free 3 (.free 4 (.free 5 (.free 6 (.free 7 (.free 8 (.free 9 (.free 10 (.free 11 (.free 12 (.free 13 .done)))))))))))))) mix ?_
    | (refine callR (tNumber _ _ (by first | omega | (rw [ByteArray.size_extract]; omega))) ?_; rintro _ Hz ⟨⟨xn, xb, rfl, hxb⟩, hz⟩; subst Hz)
    | (refine callR (tCommon _ _ _ (by omega) (by omega)) ?_; rintro _ Hz ⟨⟨cg, rfl, hg0, hg1⟩, hz⟩; have hq0 := tdiv_pos _ _ hg0 hg1; have hq1 := tdiv_le _ cg hg0 (Int.le_of_lt hp.1); subst Hz)
    | refine Gs.mk (fun g => ?_) (fun g => ?_) <;> (try simp only [nm] at g) <;> try (exfalso; first | contradiction | omega)
    | refine Gr.mk (fun g => ?_) (fun g => ?_) <;> (try simp only [nm] at g) <;> try (exfalso; first | contradiction | omega)
    | (refine Run.of ?_; simp (maxSteps := 1000000) (disch := first | omega | assumption | (simp; done) | fail) [*, idx9, cutAB, cutA, cutB, wrap_i64, wrap_nn, ext_size, beq_bytes, app_size, catIf, bemp, ifNone])
  all_goals (try (refine Kx.mk ?_; refine owes_r (l := [.tmp 4, .tmp 5]) (.inr rfl) hwf rfl (by first | (simp (maxDischargeDepth := 20) [*]; done) | (repeat (first | exact AS.Ext.refl _ | assumption | refine AS.Ext.bump ?_ | refine AS.Ext.setBox (by first | omega | (simp; omega) | (simp; done)) ?_))) ?_ <;> (try simp (maxDischargeDepth := 20) [resP, packed, plain1_agg, plain1_sl, bemp, and_assoc, aload, partOf, *]) <;> (try ((repeat' apply And.intro) <;> first | omega | fail))))
  refine T_lp (fun k F H' => ∃ e : Int, k = e.toNat ∧ F 0 = ps s ∧ F 1 = pi u ∧ F 6 = pi e ∧ 0 ≤ e ∧ e ≤ s.size ∧ H = H') (s.size) ?_ ?_
  · refine ⟨(s.size : Int), ?_⟩ <;> (repeat' apply And.intro) <;> first | omega | rfl | assumption | (exact ⟨_, rfl⟩) | (simp (disch := first | omega | assumption | (simp; done) | fail) [*, idx9, cutAB, cutA, cutB, wrap_i64, wrap_nn, ext_size, beq_bytes, app_size, catIf, bemp]; done) | (simp [*]; omega) | fail
  rintro k F H1 ⟨e, rfl, g0, g1, g6, he1, he2, rfl⟩
  repeat' first
    | refine T_seq ?_
    | refine T_rgn ?_
    | refine T_cd ?_
    | refine T_sk ?_
    | refine T_rt ?_
    | refine T_block ?_
    | refine T_ex ?_
    | refine Kt_then ?_
    | refine Kt_block ?_
    | refine Kr_then ?_
    | refine Kr_block ?_
    | refine Kr_loop ?_
    | refine Ke_here ?_
    | refine Ke_then ?_
    | refine Ke_loop ?_
    | refine Ke_block ?_
    | refine Hid.mk ?_
    | refine T_dr (id := 15) (fun _ => True) [] (.free 0 (.free 1 (.free 2 (.free 3 (.free 4 (.free 5 (.free 6 (.free 7 (.free 8 (.free 9 (.free 10 (.free 11 (.free 12 (.free 13 .done)))))))))))))) mix ?_
    | (refine callR (tNumber _ _ (by first | omega | (rw [ByteArray.size_extract]; omega))) ?_; rintro _ Hz ⟨⟨xn, xb, rfl, hxb⟩, hz⟩; subst Hz)
    | (refine callR (tCommon _ _ _ (by omega) (by omega)) ?_; rintro _ Hz ⟨⟨cg, rfl, hg0, hg1⟩, hz⟩; have hq0 := tdiv_pos _ _ hg0 hg1; have hq1 := tdiv_le _ cg hg0 (Int.le_of_lt hp.1); subst Hz)
    | refine Gs.mk (fun g => ?_) (fun g => ?_) <;> (try simp only [nm] at g) <;> try (exfalso; first | contradiction | omega)
    | refine Gr.mk (fun g => ?_) (fun g => ?_) <;> (try simp only [nm] at g) <;> try (exfalso; first | contradiction | omega)
    | (refine Run.of ?_; simp (maxSteps := 1000000) (disch := first | omega | assumption | (simp; done) | fail) [*, idx9, cutAB, cutA, cutB, wrap_i64, wrap_nn, ext_size, beq_bytes, app_size, catIf, bemp, ifNone])
  all_goals (try (refine Kx.mk ?_; refine owes_r (l := [.tmp 4, .tmp 5]) (.inr rfl) hwf rfl (by first | (simp (maxDischargeDepth := 20) [*]; done) | (repeat (first | exact AS.Ext.refl _ | assumption | refine AS.Ext.bump ?_ | refine AS.Ext.setBox (by first | omega | (simp; omega) | (simp; done)) ?_))) ?_ <;> (try simp (maxDischargeDepth := 20) [resP, packed, plain1_agg, plain1_sl, bemp, and_assoc, aload, partOf, *]) <;> (try ((repeat' apply And.intro) <;> first | omega | fail))))
  all_goals first | (refine Kt_loop ⟨_, ?_, e - 1, rfl, ?_⟩ <;> (repeat' apply And.intro) <;> first | omega | rfl | assumption | (exact ⟨_, rfl⟩) | (simp (disch := first | omega | assumption | (simp; done) | fail) [*, idx9, cutAB, cutA, cutB, wrap_i64, wrap_nn, ext_size, beq_bytes, app_size, catIf, bemp]; done) | (simp [*]; omega) | fail) | skip
  all_goals (try (refine Kx.mk ?_; refine owes_r (l := [.tmp 4, .tmp 5]) (.inr rfl) hwf rfl (by first | (simp (maxDischargeDepth := 20) [*]; done) | (repeat (first | exact AS.Ext.refl _ | assumption | refine AS.Ext.bump ?_ | refine AS.Ext.setBox (by first | omega | (simp; omega) | (simp; done)) ?_))) ?_ <;> (try simp (maxDischargeDepth := 20) [resP, packed, plain1_agg, plain1_sl, bemp, and_assoc, aload, partOf, *]) <;> (try ((repeat' apply And.intro) <;> first | omega | fail))))
  all_goals (
    refine T_lp (fun k F H' => ∃ i : Nat, k = 16 - i ∧ F 0 = ps s ∧ F 1 = pi u ∧ (∃ e : Int, F 6 = pi e ∧ e ≤ 16) ∧ (∃ n : Int, F 7 = pi n) ∧ F 9 = pi (10 ^ i) ∧ F 10 = pi i ∧ i ≤ 16 ∧ H = H') (16) ?_ ?_
    · refine ⟨0, ?_⟩ <;> (repeat' apply And.intro) <;> first | omega | rfl | assumption | (exact ⟨_, rfl⟩) | (simp (disch := first | omega | assumption | (simp; done) | fail) [*, idx9, cutAB, cutA, cutB, wrap_i64, wrap_nn, ext_size, beq_bytes, app_size, catIf, bemp]; done) | exact ⟨_, rfl, by omega⟩ | (simp [*]; omega) | fail
    rintro k F H1 ⟨i, rfl, g0, g1, ⟨e, g6, he⟩, ⟨n, g7⟩, g9, g10, hi, rfl⟩
    have hp := p10_bd i hi
    repeat' first
      | refine T_seq ?_
      | refine T_rgn ?_
      | refine T_cd ?_
      | refine T_sk ?_
      | refine T_rt ?_
      | refine T_block ?_
      | refine T_ex ?_
      | refine Kt_then ?_
      | refine Kt_block ?_
      | refine Kr_then ?_
      | refine Kr_block ?_
      | refine Kr_loop ?_
      | refine Ke_here ?_
      | refine Ke_then ?_
      | refine Ke_loop ?_
      | refine Ke_block ?_
      | refine Hid.mk ?_
      | refine T_dr (id := 15) (fun _ => True) [] (.free 0 (.free 1 (.free 2 (.free 3 (.free 4 (.free 5 (.free 6 (.free 7 (.free 8 (.free 9 (.free 10 (.free 11 (.free 12 (.free 13 .done)))))))))))))) mix ?_
      | (refine callR (tNumber _ _ (by first | omega | (rw [ByteArray.size_extract]; omega))) ?_; rintro _ Hz ⟨⟨xn, xb, rfl, hxb⟩, hz⟩; subst Hz)
      | (refine callR (tCommon _ _ _ (by omega) (by omega)) ?_; rintro _ Hz ⟨⟨cg, rfl, hg0, hg1⟩, hz⟩; have hq0 := tdiv_pos _ _ hg0 hg1; have hq1 := tdiv_le _ cg hg0 (Int.le_of_lt hp.1); subst Hz)
      | refine Gs.mk (fun g => ?_) (fun g => ?_) <;> (try simp only [nm] at g) <;> try (exfalso; first | contradiction | omega)
      | refine Gr.mk (fun g => ?_) (fun g => ?_) <;> (try simp only [nm] at g) <;> try (exfalso; first | contradiction | omega)
      | (refine Run.of ?_; simp (maxSteps := 1000000) (disch := first | omega | assumption | (simp; done) | fail) [*, idx9, cutAB, cutA, cutB, wrap_i64, wrap_nn, ext_size, beq_bytes, app_size, catIf, bemp, ifNone])
    all_goals (try (refine Kx.mk ?_; refine owes_r (l := [.tmp 4, .tmp 5]) (.inr rfl) hwf rfl (by first | (simp (maxDischargeDepth := 20) [*]; done) | (repeat (first | exact AS.Ext.refl _ | assumption | refine AS.Ext.bump ?_ | refine AS.Ext.setBox (by first | omega | (simp; omega) | (simp; done)) ?_))) ?_ <;> (try simp (maxDischargeDepth := 20) [resP, packed, plain1_agg, plain1_sl, bemp, and_assoc, aload, partOf, *]) <;> (try ((repeat' apply And.intro) <;> first | omega | fail))))
    all_goals first | (refine Kt_loop ⟨_, ?_, i + 1, rfl, ?_⟩ <;> (repeat' apply And.intro) <;> first | omega | rfl | assumption | (exact ⟨_, rfl⟩) | (simp (disch := first | omega | assumption | (simp; done) | fail) [*, idx9, cutAB, cutA, cutB, wrap_i64, wrap_nn, ext_size, beq_bytes, app_size, catIf, bemp]; done) | (exact ⟨e, by simp [*], by omega⟩) | (simp [*, Int.pow_succ, Int.mul_comm]; done) | (simp [*]; omega) | fail) | skip)
set_option maxHeartbeats 4000000
theorem tSpan (H : AS) (s : ByteArray) (hs : s.size ≤ 65536) : ACalls Tryz.prog 155 [ps s] H fun q H' => (∃ (m' : Int) (b : Bool), q = .tuple [pi m', pb b]) ∧ H' = H := by
  refine ACalls_intro Tryz.func155 rfl (by kernel_rfl) (by simp) fun hwf hbel => ?_
  repeat' first
    | refine T_seq ?_
    | refine T_rgn ?_
    | refine T_cd ?_
    | refine T_sk ?_
    | refine T_rt ?_
    | refine T_block ?_
    | refine T_ex ?_
    | refine Kt_then ?_
    | refine Kt_block ?_
    | refine Kr_then ?_
    | refine Kr_block ?_
    | refine Ke_here ?_
    | refine Ke_then ?_
    | refine Hid.mk ?_
    | (refine callR (tRun _ _ _ hs (by omega) (by omega)) ?_; rintro _ Hz ⟨⟨re, rfl, hr1, hr2⟩, hz⟩; subst Hz)
    | (refine callR (tNumber _ _ (by first | omega | (rw [ByteArray.size_extract]; omega))) ?_; rintro _ Hz ⟨⟨xn, xb, rfl, hxb⟩, hz⟩; try rw [ByteArray.size_extract] at hxb; subst Hz)
    | (refine callR (tUnitAt _ _ _ hs (by omega) (by omega)) ?_; rintro _ Hz ⟨⟨_, ue, rfl, hu1, hu2⟩, hz⟩; subst Hz)
    | (refine callR (tUnit _ _) ?_; rintro _ Hz ⟨⟨_, _, _, rfl, hq1, hq2⟩, hz⟩; subst Hz)
    | (refine callR (tPlus _ _ _ _) ?_; rintro _ Hz ⟨⟨_, _, rfl⟩, hz⟩; subst Hz)
    | (refine callR (tFraction _ _ _ (by first | omega | (rw [ByteArray.size_extract]; omega)) (by omega)) ?_; rintro _ Hz ⟨⟨_, _, rfl⟩, hz⟩; subst Hz)
    | refine Gs.mk (fun g => ?_) (fun g => ?_) <;> (try simp only [nm] at g) <;> try (exfalso; first | contradiction | omega)
    | refine Gr.mk (fun g => ?_) (fun g => ?_) <;> (try simp only [nm] at g) <;> try (exfalso; first | contradiction | omega)
    | (refine Run.of ?_; simp (maxSteps := 1000000) (disch := first | omega | assumption | (simp; done) | fail) [*, idx9, cutAB, cutA, cutB, wrap_i64, wrap_nn, ext_size, beq_bytes, app_size, catIf, bemp])
  all_goals (try (refine Kx.mk ?_; refine owes_r (l := [.tmp 2, .tmp 3]) (.inr rfl) hwf rfl (by first | (simp (maxDischargeDepth := 20) [*]; done) | (repeat (first | exact AS.Ext.refl _ | assumption | refine AS.Ext.bump ?_ | refine AS.Ext.setBox (by first | omega | (simp; omega) | (simp; done)) ?_))) ?_ <;> (try simp (maxDischargeDepth := 20) [resP, packed, plain1_agg, plain1_sl, bemp, and_assoc, aload, partOf, *]) <;> (try ((repeat' apply And.intro) <;> first | omega | fail))))
  refine T_lp (fun k F H' => ∃ p : Int, k = ((s.size : Int) - p).toNat ∧ F 0 = ps s ∧ F 6 = pi p ∧ 0 ≤ p ∧ p ≤ s.size ∧ (∃ x : Int, F 4 = pi x) ∧ (∃ y : Int, F 5 = pi y) ∧ H = H') (((s.size : Int) - 0).toNat) ?_ ?_
  · refine ⟨0, ?_⟩ <;> (repeat' apply And.intro) <;> first | omega | rfl | assumption | (exact ⟨_, rfl⟩) | (simp (disch := first | omega | assumption | (simp; done) | fail) [*, idx9, cutAB, cutA, cutB, wrap_i64, wrap_nn, ext_size, beq_bytes, app_size, catIf, bemp]; done) | (simp [*]; omega) | fail
  rintro k F H1 ⟨p, rfl, g0, g6, hp1, hp2, ⟨x, g4⟩, ⟨y, g5⟩, rfl⟩
  repeat' first
    | refine T_seq ?_
    | refine T_rgn ?_
    | refine T_cd ?_
    | refine T_sk ?_
    | refine T_rt ?_
    | refine T_block ?_
    | refine T_ex ?_
    | refine Kt_then ?_
    | refine Kt_block ?_
    | refine Kr_then ?_
    | refine Kr_block ?_
    | refine Kr_loop ?_
    | refine Ke_here ?_
    | refine Ke_then ?_
    | refine Ke_loop ?_
    | refine Ke_block ?_
    | refine Hid.mk ?_
    | (refine callR (tRun _ _ _ hs (by omega) (by omega)) ?_; rintro _ Hz ⟨⟨re, rfl, hr1, hr2⟩, hz⟩; subst Hz)
    | (refine callR (tNumber _ _ (by first | omega | (rw [ByteArray.size_extract]; omega))) ?_; rintro _ Hz ⟨⟨xn, xb, rfl, hxb⟩, hz⟩; try rw [ByteArray.size_extract] at hxb; subst Hz)
    | (refine callR (tUnitAt _ _ _ hs (by omega) (by omega)) ?_; rintro _ Hz ⟨⟨_, ue, rfl, hu1, hu2⟩, hz⟩; subst Hz)
    | (refine callR (tUnit _ _) ?_; rintro _ Hz ⟨⟨_, _, _, rfl, hq1, hq2⟩, hz⟩; subst Hz)
    | (refine callR (tPlus _ _ _ _) ?_; rintro _ Hz ⟨⟨_, _, rfl⟩, hz⟩; subst Hz)
    | (refine callR (tFraction _ _ _ (by first | omega | (rw [ByteArray.size_extract]; omega)) (by omega)) ?_; rintro _ Hz ⟨⟨_, _, rfl⟩, hz⟩; subst Hz)
    | refine Gs.mk (fun g => ?_) (fun g => ?_) <;> (try simp only [nm] at g) <;> try (exfalso; first | contradiction | omega)
    | refine Gr.mk (fun g => ?_) (fun g => ?_) <;> (try simp only [nm] at g) <;> try (exfalso; first | contradiction | omega)
    | (refine Run.of ?_; simp (maxSteps := 1000000) (disch := first | omega | assumption | (simp; done) | fail) [*, idx9, cutAB, cutA, cutB, wrap_i64, wrap_nn, ext_size, beq_bytes, app_size, catIf, bemp])
  all_goals (try (refine Kx.mk ?_; refine owes_r (l := [.tmp 2, .tmp 3]) (.inr rfl) hwf rfl (by first | (simp (maxDischargeDepth := 20) [*]; done) | (repeat (first | exact AS.Ext.refl _ | assumption | refine AS.Ext.bump ?_ | refine AS.Ext.setBox (by first | omega | (simp; omega) | (simp; done)) ?_))) ?_ <;> (try simp (maxDischargeDepth := 20) [resP, packed, plain1_agg, plain1_sl, bemp, and_assoc, aload, partOf, *]) <;> (try ((repeat' apply And.intro) <;> first | omega | fail))))
  all_goals first | (refine Kt_loop ⟨_, ?_, ue, rfl, ?_⟩ <;> (repeat' apply And.intro) <;> first | omega | rfl | assumption | (exact ⟨_, rfl⟩) | (simp (disch := first | omega | assumption | (simp; done) | fail) [*, idx9, cutAB, cutA, cutB, wrap_i64, wrap_nn, ext_size, beq_bytes, app_size, catIf, bemp]; done) | (have hq := hxb (by assumption); omega) | (simp [*]; omega) | fail) | skip
set_option maxHeartbeats 4000000
theorem tFixed (H : AS) (s : ByteArray) (p n : Int) (hs : s.size ≤ 65536) (h0 : 0 ≤ p ∧ p ≤ 65536) (hn : 0 ≤ n ∧ n ≤ 16) : ACalls Tryz.prog 171 [ps s, pi p, pi n] H fun q H' => (∃ (m' : Int) (b : Bool), q = .tuple [pi m', pb b] ∧ (b = true → p + n ≤ s.size)) ∧ H' = H := by
  refine ACalls_intro Tryz.func171 rfl (by kernel_rfl) (by simp) fun hwf hbel => ?_
  repeat' first
    | refine T_seq ?_
    | refine T_rgn ?_
    | refine T_cd ?_
    | refine T_sk ?_
    | refine T_rt ?_
    | refine T_block ?_
    | refine T_ex ?_
    | refine Kt_then ?_
    | refine Kt_block ?_
    | refine Kr_then ?_
    | refine Kr_block ?_
    | refine Ke_here ?_
    | refine Ke_then ?_
    | refine Hid.mk ?_
    | (refine callR (tRun _ _ _ hs (by omega) (by omega)) ?_; rintro _ Hz ⟨⟨re, rfl, hr1, hr2⟩, hz⟩; subst Hz)
    | (refine callR (tNumber _ _ (by first | omega | (rw [ByteArray.size_extract]; omega))) ?_; rintro _ Hz ⟨⟨xn, xb, rfl, hxb⟩, hz⟩; subst Hz)
    | refine Gs.mk (fun g => ?_) (fun g => ?_) <;> (try simp only [nm] at g) <;> try (exfalso; first | contradiction | omega)
    | refine Gr.mk (fun g => ?_) (fun g => ?_) <;> (try simp only [nm] at g) <;> try (exfalso; first | contradiction | omega)
    | (refine Run.of ?_; simp (maxSteps := 1000000) (disch := first | omega | assumption | (simp; done) | fail) [*, idx9, cutAB, cutA, cutB, wrap_i64, wrap_nn, ext_size, beq_bytes, app_size, catIf, bemp])
  all_goals (refine Kx.mk ?_; refine owes_r (l := [.tmp 6, .tmp 7]) (.inr rfl) hwf rfl (by first | (simp (maxDischargeDepth := 20) [*]; done) | (repeat (first | exact AS.Ext.refl _ | assumption | refine AS.Ext.bump ?_ | refine AS.Ext.setBox (by first | omega | (simp; omega) | (simp; done)) ?_))) ?_ <;> (try simp (maxDischargeDepth := 20) [resP, packed, plain1_agg, plain1_sl, bemp, and_assoc, aload, partOf, *]) <;> (try ((repeat' apply And.intro) <;> first | omega | fail)))
theorem tDate (H : AS) (s : ByteArray) (hs : s.size ≤ 65536) : ACalls Tryz.prog 156 [ps s] H fun q H' => (∃ (m' : Int) (b : Bool), q = .tuple [pi m', pb b]) ∧ H' = H := by
  refine ACalls_intro Tryz.func156 rfl (by kernel_rfl) (by simp) fun hwf hbel => ?_
  repeat' first
    | refine T_seq ?_
    | refine T_rgn ?_
    | refine T_cd ?_
    | refine T_sk ?_
    | refine T_rt ?_
    | refine T_block ?_
    | refine T_ex ?_
    | refine Kt_then ?_
    | refine Kt_block ?_
    | refine Kr_then ?_
    | refine Kr_block ?_
    | refine Ke_here ?_
    | refine Ke_then ?_
    | refine Hid.mk ?_
    | (refine callR (tFixed _ _ _ _ hs (by omega) (by omega)) ?_; rintro _ Hz ⟨⟨_, _, rfl, hfx⟩, hz⟩; subst Hz)
    | (refine callR (tAt _ _ _ _ (by omega)) ?_; rintro _ Hz ⟨⟨_, rfl⟩, hz⟩; subst Hz)
    | (refine callR (tDays _ _ _ _) ?_; rintro _ Hz ⟨⟨_, _, rfl⟩, hz⟩; subst Hz)
    | refine Gs.mk (fun g => ?_) (fun g => ?_) <;> (try simp only [nm] at g) <;> try (exfalso; first | contradiction | omega)
    | refine Gr.mk (fun g => ?_) (fun g => ?_) <;> (try simp only [nm] at g) <;> try (exfalso; first | contradiction | omega)
    | (refine Run.of ?_; simp (maxSteps := 1000000) (disch := first | omega | assumption | (simp; done) | fail) [*, idx9, cutAB, cutA, cutB, wrap_i64, wrap_nn, ext_size, beq_bytes, app_size, catIf, bemp])
  all_goals (refine Kx.mk ?_; refine owes_r (l := [.tmp 2, .tmp 3]) (.inr rfl) hwf rfl (by first | (simp (maxDischargeDepth := 20) [*]; done) | (repeat (first | exact AS.Ext.refl _ | assumption | refine AS.Ext.bump ?_ | refine AS.Ext.setBox (by first | omega | (simp; omega) | (simp; done)) ?_))) ?_ <;> (try simp (maxDischargeDepth := 20) [resP, packed, plain1_agg, plain1_sl, bemp, and_assoc, aload, partOf, *]) <;> (try ((repeat' apply And.intro) <;> first | omega | fail)))
set_option maxHeartbeats 4000000
theorem tClock (H : AS) (s : ByteArray) (hs : s.size ≤ 65536) : ACalls Tryz.prog 157 [ps s] H fun q H' => (∃ (m' : Int) (b : Bool), q = .tuple [pi m', pb b]) ∧ H' = H := by
  refine ACalls_intro Tryz.func157 rfl (by kernel_rfl) (by simp) fun hwf hbel => ?_
  repeat' first
    | refine T_seq ?_
    | refine T_rgn ?_
    | refine T_cd ?_
    | refine T_sk ?_
    | refine T_rt ?_
    | refine T_block ?_
    | refine T_ex ?_
    | refine Kt_then ?_
    | refine Kt_block ?_
    | refine Kr_then ?_
    | refine Kr_block ?_
    | refine Ke_here ?_
    | refine Ke_then ?_
    | refine Hid.mk ?_
    | (refine callR (tFixed _ _ _ _ hs (by omega) (by omega)) ?_; rintro _ Hz ⟨⟨_, fb, rfl, hfx⟩, hz⟩; subst Hz)
    | (refine callR (tAt _ _ _ _ (by omega)) ?_; rintro _ Hz ⟨⟨_, rfl⟩, hz⟩; subst Hz)
    | (refine callR (tRun _ _ _ hs (by omega) (by first | omega | (have hq := hfx (by assumption); omega))) ?_; rintro _ Hz ⟨⟨re, rfl, hr1, hr2⟩, hz⟩; subst Hz)
    | (refine callR (tFraction _ _ _ (by first | omega | (rw [ByteArray.size_extract]; omega)) (by omega)) ?_; rintro _ Hz ⟨⟨_, _, rfl⟩, hz⟩; subst Hz)
    | refine Gs.mk (fun g => ?_) (fun g => ?_) <;> (try simp only [nm] at g) <;> try (exfalso; first | contradiction | omega)
    | refine Gr.mk (fun g => ?_) (fun g => ?_) <;> (try simp only [nm] at g) <;> try (exfalso; first | contradiction | omega)
    | (refine Run.of ?_; simp (maxSteps := 1000000) (disch := first | omega | assumption | (simp; done) | fail) [*, idx9, cutAB, cutA, cutB, wrap_i64, wrap_nn, ext_size, beq_bytes, app_size, catIf, bemp])
  all_goals (refine Kx.mk ?_; refine owes_r (l := [.tmp 2, .tmp 3]) (.inr rfl) hwf rfl (by first | (simp (maxDischargeDepth := 20) [*]; done) | (repeat (first | exact AS.Ext.refl _ | assumption | refine AS.Ext.bump ?_ | refine AS.Ext.setBox (by first | omega | (simp; omega) | (simp; done)) ?_))) ?_ <;> (try simp (maxDischargeDepth := 20) [resP, packed, plain1_agg, plain1_sl, bemp, and_assoc, aload, partOf, *]) <;> (try ((repeat' apply And.intro) <;> first | omega | fail)))
set_option maxHeartbeats 4000000
theorem tParse (H : AS) (k : Int) (s : ByteArray) (hs : s.size ≤ 65536) : ACalls Tryz.prog 139 [.val (.int .u8 k), ps s] H fun q H' => (∃ (a b : Int) (t : ByteArray) (o : Bool), q = .tuple [.agg [k8 a, k64 b, ps t], pb o]) ∧ H' = H := by
  refine ACalls_intro Tryz.func139 rfl (by kernel_rfl) (by simp) fun hwf hbel => ?_
  repeat' first
    | refine T_seq ?_
    | refine T_rgn ?_
    | refine T_cd ?_
    | refine T_sk ?_
    | refine T_rt ?_
    | refine T_block ?_
    | refine T_ex ?_
    | refine Kt_then ?_
    | refine Kt_block ?_
    | refine Kr_then ?_
    | refine Kr_block ?_
    | refine Ke_here ?_
    | refine Ke_then ?_
    | refine Hid.mk ?_
    | (refine callR (tSpan _ _ (by first | omega | (rw [ByteArray.size_extract]; omega))) ?_; rintro _ Hz ⟨⟨_, _, rfl⟩, hz⟩; subst Hz)
    | (refine callR (tDate _ _ (by first | omega | (rw [ByteArray.size_extract]; omega))) ?_; rintro _ Hz ⟨⟨_, _, rfl⟩, hz⟩; subst Hz)
    | (refine callR (tClock _ _ (by first | omega | (rw [ByteArray.size_extract]; omega))) ?_; rintro _ Hz ⟨⟨_, _, rfl⟩, hz⟩; subst Hz)
    | refine Gs.mk (fun g => ?_) (fun g => ?_) <;> (try simp only [nm] at g) <;> try (exfalso; first | contradiction | omega)
    | refine Gr.mk (fun g => ?_) (fun g => ?_) <;> (try simp only [nm] at g) <;> try (exfalso; first | contradiction | omega)
    | (refine Run.of ?_; simp (maxSteps := 1000000) (disch := first | omega | assumption | (simp; done) | fail) [*, idx9, cutAB, cutA, cutB, wrap_i64, wrap_nn, ext_size, beq_bytes, app_size, catIf, bemp])
  all_goals (refine Kx.mk ?_; refine owes_r (l := [.cell 4 119, .tmp 5]) (.inr rfl) hwf rfl (by first | (simp (maxDischargeDepth := 20) [*]; done) | (repeat (first | exact AS.Ext.refl _ | assumption | refine AS.Ext.bump ?_ | refine AS.Ext.setBox (by first | omega | (simp; omega) | (simp; done)) ?_))) ?_ <;> (try simp (maxDischargeDepth := 20) [resP, packed, plain1_agg, plain1_sl, bemp, and_assoc, aload, partOf, *]) <;> (try ((repeat' apply And.intro) <;> first | omega | fail)))
set_option maxHeartbeats 4000000
theorem wText (H : AS) (s : ByteArray) (a : Int) (hs : s.size ≤ 65536) (h0 : 0 ≤ a) (ha : a < s.size) : ACalls Tryz.prog 101 [ps s, pi a] H fun q H' => (∃ (w : ByteArray) (e : Int) (k : Bool), q = .tuple [ps w, pi e, pb k] ∧ (e = -1 ∨ a ≤ e ∧ e ≤ s.size) ∧ w.size ≤ 65536) ∧ H' = H := by
  refine ACalls_intro Tryz.func101 rfl (by kernel_rfl) (by simp) fun hwf hbel => ?_
  repeat' first
    | refine T_seq ?_
    | refine T_rgn ?_
    | refine T_cd ?_
    | refine T_sk ?_
    | refine T_rt ?_
    | refine T_block ?_
    | refine T_ex ?_
    | refine Kt_then ?_
    | refine Kt_block ?_
    | refine Kr_then ?_
    | refine Kr_block ?_
    | refine Ke_here ?_
    | refine Ke_then ?_
    | refine Hid.mk ?_
    | (refine callR (wEscape _ _ _ hs (by omega) (by omega)) ?_; rintro _ Hz ⟨⟨w2, n2, rfl, hw2, hn0, hn2, hn3⟩, hz⟩; subst Hz)
    | refine Gs.mk (fun g => ?_) (fun g => ?_) <;> (try simp only [nm] at g) <;> try (exfalso; first | contradiction | omega)
    | refine Gr.mk (fun g => ?_) (fun g => ?_) <;> (try simp only [nm] at g) <;> try (exfalso; first | contradiction | omega)
    | (refine Run.of ?_; simp (maxSteps := 1000000) (disch := first | omega | assumption | (simp; done) | fail) [*, idx9, cutAB, cutA, cutB, wrap_i64, wrap_nn, ext_size, beq_bytes, app_size, catIf, bemp])
  all_goals (try (refine Kx.mk ?_; refine owes_r (l := [.tmp 4, .tmp 5, .tmp 6]) (.inr rfl) hwf rfl (by first | (simp (maxDischargeDepth := 20) [*]; done) | (repeat (first | exact AS.Ext.refl _ | assumption | refine AS.Ext.bump ?_ | refine AS.Ext.setBox (by first | omega | (simp; omega) | (simp; done)) ?_))) ?_ <;> (try simp (maxDischargeDepth := 20) [resP, packed, plain1_agg, plain1_sl, bemp, and_assoc, aload, partOf, *]) <;> (try ((repeat' apply And.intro) <;> first | omega | (rw [ext_size _ _ _ (by omega) (by omega)]; omega) | fail))))
  refine T_lp (fun k F H' => ∃ (e : Int) (w : ByteArray) (o : Bool), k = ((s.size : Int) - e).toNat ∧ F 0 = ps s ∧ F 1 = pi e ∧ F 7 = ps w ∧ F 8 = pb o ∧ a + 1 ≤ e ∧ e ≤ s.size ∧ w.size ≤ e ∧ H' = H) (((s.size : Int) - (a + 1)).toNat) ?_ ?_
  · refine ⟨a + 1, ⟨#[]⟩, true, ?_⟩ <;> (repeat' apply And.intro) <;> first | omega | rfl | assumption | (exact ⟨_, rfl⟩) | (simp (disch := first | omega | assumption | (simp; done) | fail) [*, idx9, cutAB, cutA, cutB, wrap_i64, wrap_nn, ext_size, beq_bytes, app_size, catIf, bemp]; done) | (simp [*]; omega) | fail
  rintro k F H1 ⟨e, w, o, rfl, g0, g1, g7, g8, he1, he2, hw, rfl⟩
  repeat' first
    | refine T_seq ?_
    | refine T_rgn ?_
    | refine T_cd ?_
    | refine T_sk ?_
    | refine T_rt ?_
    | refine T_block ?_
    | refine T_ex ?_
    | refine Kt_then ?_
    | refine Kt_block ?_
    | refine Kr_then ?_
    | refine Kr_block ?_
    | refine Kr_loop ?_
    | refine Ke_here ?_
    | refine Ke_then ?_
    | refine Ke_loop ?_
    | refine Ke_block ?_
    | refine Hid.mk ?_
    | (refine callR (wEscape _ _ _ hs (by omega) (by omega)) ?_; rintro _ Hz ⟨⟨w2, n2, rfl, hw2, hn0, hn2, hn3⟩, hz⟩; subst Hz)
    | refine Gs.mk (fun g => ?_) (fun g => ?_) <;> (try simp only [nm] at g) <;> try (exfalso; first | contradiction | omega)
    | refine Gr.mk (fun g => ?_) (fun g => ?_) <;> (try simp only [nm] at g) <;> try (exfalso; first | contradiction | omega)
    | (refine Run.of ?_; simp (maxSteps := 1000000) (disch := first | omega | assumption | (simp; done) | fail) [*, idx9, cutAB, cutA, cutB, wrap_i64, wrap_nn, ext_size, beq_bytes, app_size, catIf, bemp])
  all_goals (try (refine Kx.mk ?_; refine owes_r (l := [.tmp 4, .tmp 5, .tmp 6]) (.inr rfl) hwf rfl (by first | (simp (maxDischargeDepth := 20) [*]; done) | (repeat (first | exact AS.Ext.refl _ | assumption | refine AS.Ext.bump ?_ | refine AS.Ext.setBox (by first | omega | (simp; omega) | (simp; done)) ?_))) ?_ <;> (try simp (maxDischargeDepth := 20) [resP, packed, plain1_agg, plain1_sl, bemp, and_assoc, aload, partOf, *]) <;> (try ((repeat' apply And.intro) <;> first | omega | (rw [ext_size _ _ _ (by omega) (by omega)]; omega) | fail))))
  all_goals first | (refine Kt_loop ⟨_, ?_, e + 1, w ++ s.extract e.toNat (e + 1).toNat, o, rfl, ?_⟩ <;> (repeat' apply And.intro) <;> first | omega | rfl | assumption | (exact ⟨_, rfl⟩) | (simp (disch := first | omega | assumption | (simp; done) | fail) [*, idx9, cutAB, cutA, cutB, wrap_i64, wrap_nn, ext_size, beq_bytes, app_size, catIf, bemp]; done) | (rw [app_size, ext_size _ _ _ (by omega) (by omega)]; omega) | (simp only [app_size]; omega) | (simp [*]; omega) | fail) | (refine Kt_loop ⟨_, ?_, e + 1, w ++ s.extract e.toNat (e + 1).toNat, false, rfl, ?_⟩ <;> (repeat' apply And.intro) <;> first | omega | rfl | assumption | (exact ⟨_, rfl⟩) | (simp (disch := first | omega | assumption | (simp; done) | fail) [*, idx9, cutAB, cutA, cutB, wrap_i64, wrap_nn, ext_size, beq_bytes, app_size, catIf, bemp]; done) | (rw [app_size, ext_size _ _ _ (by omega) (by omega)]; omega) | (simp only [app_size]; omega) | (simp [*]; omega) | fail) | (refine Kt_loop ⟨_, ?_, e + (1 + n2), w ++ w2, o, rfl, ?_⟩ <;> (repeat' apply And.intro) <;> first | omega | rfl | assumption | (exact ⟨_, rfl⟩) | (simp (disch := first | omega | assumption | (simp; done) | fail) [*, idx9, cutAB, cutA, cutB, wrap_i64, wrap_nn, ext_size, beq_bytes, app_size, catIf, bemp]; done) | (rw [app_size, ext_size _ _ _ (by omega) (by omega)]; omega) | (simp only [app_size]; omega) | (simp [*]; omega) | fail) | (refine Kt_loop ⟨_, ?_, e + (1 + n2), w ++ w2, false, rfl, ?_⟩ <;> (repeat' apply And.intro) <;> first | omega | rfl | assumption | (exact ⟨_, rfl⟩) | (simp (disch := first | omega | assumption | (simp; done) | fail) [*, idx9, cutAB, cutA, cutB, wrap_i64, wrap_nn, ext_size, beq_bytes, app_size, catIf, bemp]; done) | (rw [app_size, ext_size _ _ _ (by omega) (by omega)]; omega) | (simp only [app_size]; omega) | (simp [*]; omega) | fail) | (refine Kt_loop ⟨_, ?_, e + 2, w ++ w2, o, rfl, ?_⟩ <;> (repeat' apply And.intro) <;> first | omega | rfl | assumption | (exact ⟨_, rfl⟩) | (simp (disch := first | omega | assumption | (simp; done) | fail) [*, idx9, cutAB, cutA, cutB, wrap_i64, wrap_nn, ext_size, beq_bytes, app_size, catIf, bemp]; done) | (rw [app_size, ext_size _ _ _ (by omega) (by omega)]; omega) | (simp only [app_size]; omega) | (simp [*]; omega) | fail) | (refine Kt_loop ⟨_, ?_, e + 2, w ++ w2, false, rfl, ?_⟩ <;> (repeat' apply And.intro) <;> first | omega | rfl | assumption | (exact ⟨_, rfl⟩) | (simp (disch := first | omega | assumption | (simp; done) | fail) [*, idx9, cutAB, cutA, cutB, wrap_i64, wrap_nn, ext_size, beq_bytes, app_size, catIf, bemp]; done) | (rw [app_size, ext_size _ _ _ (by omega) (by omega)]; omega) | (simp only [app_size]; omega) | (simp [*]; omega) | fail) | (refine Kt_loop ⟨_, ?_, e + (1 + 1), w ++ w2, o, rfl, ?_⟩ <;> (repeat' apply And.intro) <;> first | omega | rfl | assumption | (exact ⟨_, rfl⟩) | (simp (disch := first | omega | assumption | (simp; done) | fail) [*, idx9, cutAB, cutA, cutB, wrap_i64, wrap_nn, ext_size, beq_bytes, app_size, catIf, bemp]; done) | (rw [app_size, ext_size _ _ _ (by omega) (by omega)]; omega) | (simp only [app_size]; omega) | (simp [*]; omega) | fail) | (refine Kt_loop ⟨_, ?_, e + (1 + 1), w ++ w2, false, rfl, ?_⟩ <;> (repeat' apply And.intro) <;> first | omega | rfl | assumption | (exact ⟨_, rfl⟩) | (simp (disch := first | omega | assumption | (simp; done) | fail) [*, idx9, cutAB, cutA, cutB, wrap_i64, wrap_nn, ext_size, beq_bytes, app_size, catIf, bemp]; done) | (rw [app_size, ext_size _ _ _ (by omega) (by omega)]; omega) | (simp only [app_size]; omega) | (simp [*]; omega) | fail) | skip
set_option maxHeartbeats 4000000
theorem wMay0 (H : AS) (k b : Int) : ACalls Tryz.prog 174 [.val (.int .u8 k), .val (.int .u64 b)] H fun q H' => (∃ r : Bool, q = pb r) ∧ H' = H := by
  refine ACalls_intro Tryz.func174 rfl (by kernel_rfl) (by simp) fun hwf hbel => ?_
  repeat' first
    | refine T_seq ?_
    | refine T_rgn ?_
    | refine T_cd ?_
    | refine T_sk ?_
    | refine T_rt ?_
    | refine T_block ?_
    | refine T_ex ?_
    | refine Kt_then ?_
    | refine Kt_block ?_
    | refine Kr_then ?_
    | refine Kr_block ?_
    | refine Ke_here ?_
    | refine Ke_then ?_
    | refine Hid.mk ?_
    | (refine callR (wSigned _ _) ?_; rintro _ Hz ⟨rfl, hz⟩; subst Hz)
    | (refine callR (wWidth _ _) ?_; rintro _ Hz ⟨⟨w, rfl, hw0, hw1, hw2⟩, hz⟩; subst Hz)
    | (refine callR (wIsNan _ _) ?_; rintro _ Hz ⟨⟨_, rfl⟩, hz⟩; subst Hz)
    | refine Gs.mk (fun g => ?_) (fun g => ?_) <;> (try simp only [nm] at g) <;> try (exfalso; first | contradiction | omega)
    | refine Gr.mk (fun g => ?_) (fun g => ?_) <;> (try simp only [nm] at g) <;> try (exfalso; first | contradiction | omega)
    | (refine Run.of ?_; simp (maxSteps := 1000000) (disch := first | omega | assumption | (simp; done) | fail) [*, idx9, cutAB, cutA, cutB, wrap_i64, wrap_nn, ext_size, beq_bytes, app_size, catIf, bemp, ifSome])
  all_goals (refine Kx.mk ?_; refine owes_r (l := [.tmp 4]) (.inr rfl) hwf rfl (by first | (simp (maxDischargeDepth := 20) [*]; done) | (repeat (first | exact AS.Ext.refl _ | assumption | refine AS.Ext.bump ?_ | refine AS.Ext.setBox (by first | omega | (simp; omega) | (simp; done)) ?_))) ?_ <;> (try simp (maxDischargeDepth := 20) [resP, packed, plain1_agg, plain1_sl, bemp, and_assoc, aload, partOf, *]) <;> (try ((repeat' apply And.intro) <;> first | omega | fail)))
theorem wMay (H : AS) (v : DVal) : ACalls Tryz.prog 159 [.agg v.row] H fun q H' => (∃ r : Bool, q = pb r) ∧ H' = H := by
  refine ACalls_intro Tryz.func159 rfl (by kernel_rfl) (by simp) fun hwf hbel => ?_
  repeat' first
    | refine T_seq ?_
    | refine T_rgn ?_
    | refine T_cd ?_
    | refine T_sk ?_
    | refine T_rt ?_
    | refine T_block ?_
    | refine T_ex ?_
    | refine Kt_then ?_
    | refine Kt_block ?_
    | refine Kr_then ?_
    | refine Kr_block ?_
    | refine Ke_here ?_
    | refine Ke_then ?_
    | refine Hid.mk ?_
    | (refine callR (wMay0 _ _ _) ?_; rintro _ Hz ⟨⟨_, rfl⟩, hz⟩; subst Hz)
    | refine Gs.mk (fun g => ?_) (fun g => ?_) <;> (try simp only [nm] at g) <;> try (exfalso; first | contradiction | omega)
    | refine Gr.mk (fun g => ?_) (fun g => ?_) <;> (try simp only [nm] at g) <;> try (exfalso; first | contradiction | omega)
    | (refine Run.of ?_; simp (maxSteps := 1000000) (disch := first | omega | assumption | (simp; done) | fail) [*, idx9, cutAB, cutA, cutB, wrap_i64, wrap_nn, ext_size, beq_bytes, app_size, catIf, bemp, DVal.row])
  all_goals (refine Kx.mk ?_; refine owes_r (l := [.tmp 2]) (.inr rfl) hwf rfl (by first | (simp (maxDischargeDepth := 20) [*]; done) | (repeat (first | exact AS.Ext.refl _ | assumption | refine AS.Ext.bump ?_ | refine AS.Ext.setBox (by first | omega | (simp; omega) | (simp; done)) ?_))) ?_ <;> (try simp (maxDischargeDepth := 20) [resP, packed, plain1_agg, plain1_sl, bemp, and_assoc, aload, partOf, *]) <;> (try ((repeat' apply And.intro) <;> first | omega | fail)))
theorem wSigW (H : AS) (k : Int) : ACalls Tryz.prog 158 [.val (.int .u8 k)] H fun q H' => (∃ b : Bool, q = pb b) ∧ H' = H := (wSigned H k).mono fun q H' h => ⟨⟨_, h.1⟩, h.2⟩
set_option maxHeartbeats 4000000
theorem wKinded (H : AS) (k : Int) (v : DVal) (m : Bool) : ACalls Tryz.prog 140 [.val (.int .u8 k), .agg v.row, pb m] H fun q H' => (∃ (a b : Int) (t : ByteArray) (o : Bool), q = .tuple [.agg [k8 a, k64 b, ps t], pb o]) ∧ H' = H := by
  refine ACalls_intro Tryz.func140 rfl (by kernel_rfl) (by simp) fun hwf hbel => ?_
  repeat' first
    | refine T_seq ?_
    | refine T_rgn ?_
    | refine T_cd ?_
    | refine T_sk ?_
    | refine T_rt ?_
    | refine T_block ?_
    | refine T_ex ?_
    | refine Kt_then ?_
    | refine Kt_block ?_
    | refine Kr_then ?_
    | refine Kr_block ?_
    | refine Ke_here ?_
    | refine Ke_then ?_
    | refine Hid.mk ?_
    | refine T_dr (id := 21) (fun j => j = H.next) [] (.free 0 (.free 1 (.sole 2 (.sole 3 (.free 4 .done))))) mix ?_
    | (refine callR (wSigW _ _) ?_; rintro _ Hz ⟨⟨_, rfl⟩, hz⟩; subst Hz)
    | (refine callR (wMay _ ⟨_, _, _⟩) ?_; rintro _ Hz ⟨⟨_, rfl⟩, hz⟩; subst Hz)
    | (refine callR (wLreal _ _) ?_; rintro _ Hz ⟨⟨_, rfl⟩, hz⟩; subst Hz)
    | refine Gs.mk (fun g => ?_) (fun g => ?_) <;> (try simp only [nm] at g) <;> try (exfalso; first | contradiction | omega)
    | refine Gr.mk (fun g => ?_) (fun g => ?_) <;> (try simp only [nm] at g) <;> try (exfalso; first | contradiction | omega)
    | (refine Run.of ?_; simp (maxSteps := 1000000) (disch := first | omega | assumption | (simp; done) | fail) [*, idx9, cutAB, cutA, cutB, wrap_i64, wrap_nn, ext_size, beq_bytes, app_size, catIf, bemp, DVal.row, PV.sel])
  all_goals (refine Kx.mk ?_; refine owes_r (l := [.cell 6 119, .tmp 7]) (.inr rfl) hwf rfl (by first | (simp (maxDischargeDepth := 20) [*]; done) | (repeat (first | exact AS.Ext.refl _ | assumption | refine AS.Ext.bump ?_ | refine AS.Ext.setBox (by first | omega | (simp; omega) | (simp; done)) ?_))) ?_ <;> (try simp (maxDischargeDepth := 20) [resP, packed, plain1_agg, plain1_sl, bemp, and_assoc, aload, partOf, *]) <;> (try ((repeat' apply And.intro) <;> first | omega | fail)))
set_option maxHeartbeats 4000000
theorem rUpper (H : AS) (s : ByteArray) (hs : s.size ≤ 2001474976710656) : ACalls Tryz.prog 108 [ps s] H fun q H' => q = ps (upS s) ∧ H' = H := by
  refine ACalls_intro Tryz.func108 rfl (by kernel_rfl) (by simp) fun hwf hbel => ?_
  repeat' first
    | refine T_seq ?_
    | refine T_rgn ?_
    | refine T_cd ?_
    | refine T_sk ?_
    | refine T_rt ?_
    | refine T_block ?_
    | refine T_ex ?_
    | refine Kt_then ?_
    | refine Kt_block ?_
    | refine Kr_then ?_
    | refine Kr_block ?_
    | refine Ke_here ?_
    | refine Ke_then ?_
    | refine Hid.mk ?_
    | refine Gs.mk (fun g => ?_) (fun g => ?_) <;> (try simp only [nm] at g)
    | refine Gr.mk (fun g => ?_) (fun g => ?_) <;> (try simp only [nm] at g)
    | (refine Run.of ?_; simp (maxSteps := 1000000) (disch := first | omega | assumption | (simp; done) | fail) [*, idx200, wrap_i64, wrap_u8, toBytes, conv9200, conv2009])
  all_goals (try (refine Kx.mk ?_; refine owes_one (.inr rfl) hwf rfl ?_ ?_ ?_ ?_ <;> (try simp (maxDischargeDepth := 20) [*])))
  refine T_lp (fun k F H' => ∃ i : Nat, k = s.size - i ∧ i ≤ s.size ∧ F 3 = .msl H.next s.size 1 ∧ F 8 = pi s.size ∧ F 9 = pi i ∧ H'.box H.next = some (upRows s i) ∧ H.Ext H') (s.size) ?_ ?_
  · refine ⟨0, by omega, by omega, by simp, by simp, by simp, by simp [upRows_zero], ?_⟩
    exact .bump (.setBox (Nat.le_refl _) (.refl _))
  rintro k F H1 ⟨i, rfl, hi, g3, g8, g9, hb, hx⟩
  have hlen := upRows_length s i hi
  have hget := upRows_get s i
  have hget2 : ∀ h : i < (upRows s i).length, (upRows s i)[i]'h = [.val (.int .u8 (byteAt s i))] := fun h => (List.getElem?_eq_some_iff.1 (hget (by omega))).2
  have hstr : ¬ i < s.size → aToStringM Tryz.prog H1 200 9 (.msl H.next s.size 1) = some (ps (upS s)) := fun h => by
    obtain rfl : i = s.size := by omega
    exact toStr hb hlen (upRows_all s)
  repeat' first
    | refine T_seq ?_
    | refine T_rgn ?_
    | refine T_cd ?_
    | refine T_sk ?_
    | refine T_rt ?_
    | refine T_block ?_
    | refine T_ex ?_
    | refine Kt_then ?_
    | refine Kt_block ?_
    | refine Kr_then ?_
    | refine Kr_block ?_
    | refine Kr_loop ?_
    | refine Ke_here ?_
    | refine Ke_then ?_
    | refine Ke_loop ?_
    | refine Ke_block ?_
    | refine Hid.mk ?_
    | refine Gs.mk (fun g => ?_) (fun g => ?_) <;> (try simp only [nm] at g)
    | refine Gr.mk (fun g => ?_) (fun g => ?_) <;> (try simp only [nm] at g)
    | (refine Run.of ?_; simp (maxSteps := 1000000) (disch := first | omega | assumption | (simp; done) | fail) [*, idx200, wrap_i64, wrap_u8, toBytes, conv9200, conv2009])
  all_goals (try (refine Kx.mk ?_; refine owes_one (.inr rfl) hwf rfl ?_ ?_ ?_ ?_ <;> (try simp (maxDischargeDepth := 20) [*])))
  all_goals first | (refine Kt_loop ⟨_, ?_, i + 1, rfl, by omega, by simp [*], by simp [*], by simp [*], ?_, ?_⟩ <;> first | omega | (simp [*, upRows_low s i (by assumption) (by assumption) (by assumption)]; done) | (rw [← upRows_high s i (by assumption) (by omega)]; simp [*]; done) | (simp [*]; done) | exact .setBox (Nat.le_refl _) hx | exact hx) | skip
theorem upS_size (s : ByteArray) : (upS s).size = s.size := by
  show (s.data.toList.map upb).toArray.size = s.data.size
  simp
theorem wUpper (H : AS) (s : ByteArray) (hs : s.size ≤ 200000) : ACalls Tryz.prog 108 [ps s] H fun q H' => (∃ w : ByteArray, q = ps w ∧ w.size = s.size) ∧ H' = H :=
  (rUpper H s (by omega)).mono fun q H' h => ⟨⟨_, h.1, upS_size s⟩, h.2⟩
set_option maxHeartbeats 4000000
theorem wTyped (H : AS) (k : Int) (s : ByteArray) (a : Int) (hs : s.size ≤ 65536) (h0 : 0 ≤ a) (ha : a ≤ s.size) : ACalls Tryz.prog 125 [k8 k, ps s, pi a] H fun q H' => (∃ (x b : Int) (t : ByteArray) (e : Int) (o : Bool), q = .tuple [.agg [k8 x, k64 b, ps t], pi e, pb o] ∧ (e = -1 ∨ a ≤ e ∧ e ≤ s.size)) ∧ H' = H := by
  refine ACalls_intro Tryz.func125 rfl (by kernel_rfl) (by simp) fun hwf hbel => ?_
  repeat' first
    | refine T_seq ?_
    | refine T_rgn ?_
    | refine T_cd ?_
    | refine T_sk ?_
    | refine T_rt ?_
    | refine T_block ?_
    | refine T_ex ?_
    | refine Kt_then ?_
    | refine Kt_block ?_
    | refine Kr_then ?_
    | refine Kr_block ?_
    | refine Ke_here ?_
    | refine Ke_then ?_
    | refine Hid.mk ?_
    | (refine callR (wTime _ _) ?_; rintro _ Hz ⟨⟨_, rfl⟩, hz⟩; subst Hz)
    | (refine callR (wInner _ _) ?_; rintro _ Hz ⟨⟨_, rfl⟩, hz⟩; subst Hz)
    | (refine callR (wLetter _ _) ?_; rintro _ Hz ⟨⟨_, rfl⟩, hz⟩; subst Hz)
    | (refine callR (tParse _ _ _ (by first | omega | (rw [ByteArray.size_extract]; omega))) ?_; rintro _ Hz ⟨⟨_, _, _, _, rfl⟩, hz⟩; subst Hz)
    | (refine callR (wText _ _ _ hs (by omega) (by omega)) ?_; rintro _ Hz ⟨⟨tw, te, tk, rfl, ht1, ht2⟩, hz⟩; subst Hz)
    | (refine callR (wRun _ _ _ _ hs (by omega) (by omega)) ?_; rintro _ Hz ⟨⟨re, rfl, hr1, hr2⟩, hz⟩; subst Hz)
    | (refine callR (wUpper _ _ (by first | omega | (rw [ByteArray.size_extract]; omega))) ?_; rintro _ Hz ⟨⟨uw, rfl, hu⟩, hz⟩; subst Hz)
    | (refine callR (wBool _ _) ?_; rintro _ Hz ⟨⟨_, rfl⟩, hz⟩; subst Hz)
    | (refine callR (wDigit _ _) ?_; rintro _ Hz ⟨⟨_, rfl⟩, hz⟩; subst Hz)
    | (refine callR (wNumber _ _ _ hs (by omega) (by omega)) ?_; rintro _ Hz ⟨⟨_, _, _, ne, _, rfl, hn1, hn2⟩, hz⟩; subst Hz)
    | (refine callR (wKinded _ _ ⟨_, _, _⟩ _) ?_; rintro _ Hz ⟨⟨_, _, _, _, rfl⟩, hz⟩; subst Hz)
    | refine Gs.mk (fun g => ?_) (fun g => ?_) <;> (try simp only [nm] at g) <;> try (exfalso; first | contradiction | omega)
    | refine Gr.mk (fun g => ?_) (fun g => ?_) <;> (try simp only [nm] at g) <;> try (exfalso; first | contradiction | omega)
    | (refine Run.of ?_; simp (maxSteps := 1000000) (disch := first | omega | assumption | (simp; done) | fail) [*, idx9, cutAB, cutA, cutB, wrap_i64, wrap_nn, ext_size, beq_bytes, app_size, catIf, bemp, DVal.row])
  all_goals (try (refine Kx.mk ?_; refine owes_r (l := [.cell 6 119, .tmp 7, .tmp 8]) (.inr rfl) hwf rfl (by first | (simp (maxDischargeDepth := 20) [*]; done) | (repeat (first | exact AS.Ext.refl _ | assumption | refine AS.Ext.bump ?_ | refine AS.Ext.setBox (by first | omega | (simp; omega) | (simp; done)) ?_))) ?_ <;> (try simp (maxDischargeDepth := 20) [resP, packed, plain1_agg, plain1_sl, bemp, and_assoc, aload, partOf, *]) <;> (try ((repeat' apply And.intro) <;> first | omega | fail))))
  refine T_lp (fun k'0 F H' => ∃ e : Int, k'0 = ((s.size : Int) - e).toNat ∧ F 0 = k8 k ∧ F 1 = ps s ∧ F 2 = pi a ∧ F 6 = .ptr H.next 1 0 0 ∧ F 9 = .ptr (H.next + 1) 1 0 0 ∧ F 10 = pi e ∧ a ≤ e ∧ e ≤ s.size ∧ H'.next = H.next + 2 ∧ H'.box H.next = some [[k8 0, k64 0, ps ⟨#[]⟩]] ∧ H'.box (H.next + 1) = some [[k8 0, k64 0, ps ⟨#[]⟩]] ∧ H.Ext H') (((s.size : Int) - a).toNat) ?_ ?_
  · refine ⟨a, ?_⟩ <;> (repeat' apply And.intro) <;> first | omega | rfl | assumption | (exact ⟨_, rfl⟩) | (simp (disch := first | omega | assumption | (simp; done) | fail) [*, idx9, cutAB, cutA, cutB, wrap_i64, wrap_nn, ext_size, beq_bytes, app_size, catIf, bemp]; done) | ((repeat (first | exact AS.Ext.refl _ | assumption | refine AS.Ext.bump ?_ | refine AS.Ext.setBox (by first | omega | (simp; omega) | (simp; done)) ?_)); done) | (simp [*]; omega) | fail
  rintro k F H1 ⟨e, rfl, g0, g1, g2, g6, g9, g10, he1, he2, hn, hb0, hb1, hx⟩
  repeat' first
    | refine T_seq ?_
    | refine T_rgn ?_
    | refine T_cd ?_
    | refine T_sk ?_
    | refine T_rt ?_
    | refine T_block ?_
    | refine T_ex ?_
    | refine Kt_then ?_
    | refine Kt_block ?_
    | refine Kr_then ?_
    | refine Kr_block ?_
    | refine Kr_loop ?_
    | refine Ke_here ?_
    | refine Ke_then ?_
    | refine Ke_loop ?_
    | refine Ke_block ?_
    | refine Hid.mk ?_
    | (refine callR (wTime _ _) ?_; rintro _ Hz ⟨⟨_, rfl⟩, hz⟩; subst Hz)
    | (refine callR (wInner _ _) ?_; rintro _ Hz ⟨⟨_, rfl⟩, hz⟩; subst Hz)
    | (refine callR (wLetter _ _) ?_; rintro _ Hz ⟨⟨_, rfl⟩, hz⟩; subst Hz)
    | (refine callR (tParse _ _ _ (by first | omega | (rw [ByteArray.size_extract]; omega))) ?_; rintro _ Hz ⟨⟨_, _, _, _, rfl⟩, hz⟩; subst Hz)
    | (refine callR (wText _ _ _ hs (by omega) (by omega)) ?_; rintro _ Hz ⟨⟨tw, te, tk, rfl, ht1, ht2⟩, hz⟩; subst Hz)
    | (refine callR (wRun _ _ _ _ hs (by omega) (by omega)) ?_; rintro _ Hz ⟨⟨re, rfl, hr1, hr2⟩, hz⟩; subst Hz)
    | (refine callR (wUpper _ _ (by first | omega | (rw [ByteArray.size_extract]; omega))) ?_; rintro _ Hz ⟨⟨uw, rfl, hu⟩, hz⟩; subst Hz)
    | (refine callR (wBool _ _) ?_; rintro _ Hz ⟨⟨_, rfl⟩, hz⟩; subst Hz)
    | (refine callR (wDigit _ _) ?_; rintro _ Hz ⟨⟨_, rfl⟩, hz⟩; subst Hz)
    | (refine callR (wNumber _ _ _ hs (by omega) (by omega)) ?_; rintro _ Hz ⟨⟨_, _, _, ne, _, rfl, hn1, hn2⟩, hz⟩; subst Hz)
    | (refine callR (wKinded _ _ ⟨_, _, _⟩ _) ?_; rintro _ Hz ⟨⟨_, _, _, _, rfl⟩, hz⟩; subst Hz)
    | refine Gs.mk (fun g => ?_) (fun g => ?_) <;> (try simp only [nm] at g) <;> try (exfalso; first | contradiction | omega)
    | refine Gr.mk (fun g => ?_) (fun g => ?_) <;> (try simp only [nm] at g) <;> try (exfalso; first | contradiction | omega)
    | (refine Run.of ?_; simp (maxSteps := 1000000) (disch := first | omega | assumption | (simp; done) | fail) [*, idx9, cutAB, cutA, cutB, wrap_i64, wrap_nn, ext_size, beq_bytes, app_size, catIf, bemp, DVal.row])
  all_goals (try (refine Kx.mk ?_; refine owes_r (l := [.cell 6 119, .tmp 7, .tmp 8]) (.inr rfl) hwf rfl (by first | (simp (maxDischargeDepth := 20) [*]; done) | (repeat (first | exact AS.Ext.refl _ | assumption | refine AS.Ext.bump ?_ | refine AS.Ext.setBox (by first | omega | (simp; omega) | (simp; done)) ?_))) ?_ <;> (try simp (maxDischargeDepth := 20) [resP, packed, plain1_agg, plain1_sl, bemp, and_assoc, aload, partOf, *]) <;> (try ((repeat' apply And.intro) <;> first | omega | fail))))
  all_goals first | (refine Kt_loop ⟨_, ?_, e + 1, rfl, ?_⟩ <;> (repeat' apply And.intro) <;> first | omega | rfl | assumption | (exact ⟨_, rfl⟩) | (simp (disch := first | omega | assumption | (simp; done) | fail) [*, idx9, cutAB, cutA, cutB, wrap_i64, wrap_nn, ext_size, beq_bytes, app_size, catIf, bemp]; done) | ((repeat (first | exact AS.Ext.refl _ | assumption | refine AS.Ext.bump ?_ | refine AS.Ext.setBox (by first | omega | (simp; omega) | (simp; done)) ?_)); done) | (simp [*]; omega) | fail) | skip
set_option maxHeartbeats 4000000
theorem wNamed (H : AS) (s : ByteArray) (a : Int) (hs : s.size ≤ 65536) (h0 : 0 ≤ a) (ha : a < s.size) : ACalls Tryz.prog 104 [ps s, pi a] H fun q H' => (∃ (kd po en : Int) (tx : ByteArray) (x b : Int) (t : ByteArray) (er : Int), q = .tuple [.agg [pi kd, pi po, pi en, ps tx, k8 x, k64 b, ps t], pi er] ∧ (er = 0 → 0 ≤ en ∧ en ≤ s.size) ∧ tx.size ≤ 131072) ∧ H' = H := by
  refine ACalls_intro Tryz.func104 rfl (by kernel_rfl) (by simp) fun hwf hbel => ?_
  repeat' first
    | refine T_seq ?_
    | refine T_rgn ?_
    | refine T_cd ?_
    | refine T_sk ?_
    | refine T_rt ?_
    | refine T_block ?_
    | refine T_ex ?_
    | refine Kt_then ?_
    | refine Kt_block ?_
    | refine Kr_then ?_
    | refine Kr_block ?_
    | refine Ke_here ?_
    | refine Ke_then ?_
    | refine Hid.mk ?_
    | refine T_dr (id := 13) (fun j => ¬ j = H.next + 1) [] (.free 0 (.free 1 (.free 2 (.sole 3 (.free 4 (.sole 5 (.free 6 (.sole 7 .done)))))))) mix ?_
    | refine T_dr (id := 14) (fun j => ¬ j = H.next) [] (.free 0 (.free 1 (.sole 2 (.sole 3 (.free 4 .done))))) mix ?_
    | refine And.intro (fun _ h1 h2 => absurd h2 h1) ?_
    | (refine callR (wRun _ _ _ _ hs (by omega) (by omega)) ?_; rintro _ Hz ⟨⟨re, rfl, hr1, hr2⟩, hz⟩; subst Hz)
    | (refine callR (wUpper _ _ (by first | omega | (rw [ByteArray.size_extract]; omega))) ?_; rintro _ Hz ⟨⟨uw, rfl, hu⟩, hz⟩; try rw [ByteArray.size_extract] at hu; subst Hz)
    | (refine callR (wTimed _ _) ?_; rintro _ Hz ⟨⟨_, rfl⟩, hz⟩; subst Hz)
    | (refine callR (wKind _ _) ?_; rintro _ Hz ⟨⟨_, _, rfl⟩, hz⟩; subst Hz)
    | (refine callR (wTyped _ _ _ _ hs (by omega) (by omega)) ?_; rintro _ Hz ⟨⟨_, _, _, ye, _, rfl, hy⟩, hz⟩; subst Hz)
    | (refine callR (wN31 _ _) ?_; rintro _ Hz ⟨⟨_, rfl⟩, hz⟩; subst Hz)
    | (refine callR (wBool _ _) ?_; rintro _ Hz ⟨⟨_, rfl⟩, hz⟩; subst Hz)
    | (refine callR (wReserved _ _) ?_; rintro _ Hz ⟨⟨_, rfl⟩, hz⟩; subst Hz)
    | refine Gs.mk (fun g => ?_) (fun g => ?_) <;> (try simp only [nm] at g) <;> try (exfalso; first | contradiction | omega)
    | refine Gr.mk (fun g => ?_) (fun g => ?_) <;> (try simp only [nm] at g) <;> try (exfalso; first | contradiction | omega)
    | (refine Run.of ?_; simp (maxSteps := 1000000) (disch := first | omega | assumption | (simp; done) | fail) [*, idx9, cutAB, cutA, cutB, wrap_i64, wrap_nn, ext_size, beq_bytes, app_size, catIf, bemp])
  all_goals (refine Kx.mk ?_; refine owes_r (l := [.cell 4 151, .tmp 5]) (.inr rfl) hwf rfl (by first | (simp (maxDischargeDepth := 20) [*]; done) | (repeat (first | exact AS.Ext.refl _ | assumption | refine AS.Ext.bump ?_ | refine AS.Ext.setBox (by first | omega | (simp; omega) | (simp; done)) ?_))) ?_ <;> (try simp (maxDischargeDepth := 20) [resP, packed, plain1_agg, plain1_sl, bemp, and_assoc, aload, partOf, *]) <;> (try ((repeat' apply And.intro) <;> first | omega | (intro _; omega) | (simp; done) | fail)))
set_option maxHeartbeats 4000000
theorem wPragma (H : AS) (s : ByteArray) (hs : s.size ≤ 65536) : ACalls Tryz.prog 100 [ps s] H fun q H' => (∃ w : ByteArray, q = ps w ∧ w.size ≤ 131072) ∧ H' = H := by
  refine ACalls_intro Tryz.func100 rfl (by kernel_rfl) (by simp) fun hwf hbel => ?_
  repeat' first
    | refine T_seq ?_
    | refine T_rgn ?_
    | refine T_cd ?_
    | refine T_sk ?_
    | refine T_rt ?_
    | refine T_block ?_
    | refine T_ex ?_
    | refine Kt_then ?_
    | refine Kt_block ?_
    | refine Kr_then ?_
    | refine Kr_block ?_
    | refine Ke_here ?_
    | refine Ke_then ?_
    | refine Hid.mk ?_
    | (refine callR (wBlank _ _) ?_; rintro _ Hz ⟨⟨_, rfl⟩, hz⟩; subst Hz)
    | (refine callR (wUpper _ _ (by omega)) ?_; rintro _ Hz ⟨⟨w2, rfl, hw2⟩, hz⟩; subst Hz)
    | refine Gs.mk (fun g => ?_) (fun g => ?_) <;> (try simp only [nm] at g) <;> try (exfalso; first | contradiction | omega)
    | refine Gr.mk (fun g => ?_) (fun g => ?_) <;> (try simp only [nm] at g) <;> try (exfalso; first | contradiction | omega)
    | (refine Run.of ?_; simp (maxSteps := 1000000) (disch := first | omega | assumption | (simp; done) | fail) [*, idx9, cutAB, cutA, cutB, wrap_i64, wrap_nn, ext_size, beq_bytes, app_size, catIf, bemp, ifSome])
  all_goals (try (refine Kx.mk ?_; refine owes_r (l := [.tmp 2]) (.inr rfl) hwf rfl (by first | (simp (maxDischargeDepth := 20) [*]; done) | (repeat (first | exact AS.Ext.refl _ | assumption | refine AS.Ext.bump ?_ | refine AS.Ext.setBox (by first | omega | (simp; omega) | (simp; done)) ?_))) ?_ <;> (try simp (maxDischargeDepth := 20) [resP, packed, plain1_agg, plain1_sl, bemp, and_assoc, aload, partOf, *]) <;> (try ((repeat' apply And.intro) <;> first | omega | fail))))
  refine T_lp (fun k F H' => ∃ (e : Int) (w : ByteArray) (o : Bool), k = ((s.size : Int) - e).toNat ∧ F 0 = ps s ∧ F 5 = pi e ∧ F 3 = ps w ∧ F 4 = pb o ∧ 0 ≤ e ∧ e ≤ s.size ∧ w.size ≤ 2 * e ∧ H' = H) (((s.size : Int) - 0).toNat) ?_ ?_
  · refine ⟨0, ⟨#[]⟩, false, ?_⟩ <;> (repeat' apply And.intro) <;> first | omega | rfl | assumption | (exact ⟨_, rfl⟩) | (simp (disch := first | omega | assumption | (simp; done) | fail) [*, idx9, cutAB, cutA, cutB, wrap_i64, wrap_nn, ext_size, beq_bytes, app_size, catIf, bemp]; done) | (simp [*]; omega) | fail
  rintro k F H1 ⟨e, w, o, rfl, g0, g5, g3, g4, he1, he2, hw, rfl⟩
  repeat' first
    | refine T_seq ?_
    | refine T_rgn ?_
    | refine T_cd ?_
    | refine T_sk ?_
    | refine T_rt ?_
    | refine T_block ?_
    | refine T_ex ?_
    | refine Kt_then ?_
    | refine Kt_block ?_
    | refine Kr_then ?_
    | refine Kr_block ?_
    | refine Kr_loop ?_
    | refine Ke_here ?_
    | refine Ke_then ?_
    | refine Ke_loop ?_
    | refine Ke_block ?_
    | refine Hid.mk ?_
    | (refine callR (wBlank _ _) ?_; rintro _ Hz ⟨⟨_, rfl⟩, hz⟩; subst Hz)
    | (refine callR (wUpper _ _ (by omega)) ?_; rintro _ Hz ⟨⟨w2, rfl, hw2⟩, hz⟩; subst Hz)
    | refine Gs.mk (fun g => ?_) (fun g => ?_) <;> (try simp only [nm] at g) <;> try (exfalso; first | contradiction | omega)
    | refine Gr.mk (fun g => ?_) (fun g => ?_) <;> (try simp only [nm] at g) <;> try (exfalso; first | contradiction | omega)
    | (refine Run.of ?_; simp (maxSteps := 1000000) (disch := first | omega | assumption | (simp; done) | fail) [*, idx9, cutAB, cutA, cutB, wrap_i64, wrap_nn, ext_size, beq_bytes, app_size, catIf, bemp, ifSome])
  all_goals (try (refine Kx.mk ?_; refine owes_r (l := [.tmp 2]) (.inr rfl) hwf rfl (by first | (simp (maxDischargeDepth := 20) [*]; done) | (repeat (first | exact AS.Ext.refl _ | assumption | refine AS.Ext.bump ?_ | refine AS.Ext.setBox (by first | omega | (simp; omega) | (simp; done)) ?_))) ?_ <;> (try simp (maxDischargeDepth := 20) [resP, packed, plain1_agg, plain1_sl, bemp, and_assoc, aload, partOf, *]) <;> (try ((repeat' apply And.intro) <;> first | omega | fail))))
  all_goals first | (refine Kt_loop ⟨_, ?_, e + 1, w, true, rfl, ?_⟩ <;> (repeat' apply And.intro) <;> first | omega | rfl | assumption | (exact ⟨_, rfl⟩) | (simp (disch := first | omega | assumption | (simp; done) | fail) [*, idx9, cutAB, cutA, cutB, wrap_i64, wrap_nn, ext_size, beq_bytes, app_size, catIf, bemp]; done) | (simp only [ByteArray.size_append, ByteArray.size_extract, bsize_mk]; simp; omega) | (simp [*]; omega) | fail) | (refine Kt_loop ⟨_, ?_, e + 1, w, false, rfl, ?_⟩ <;> (repeat' apply And.intro) <;> first | omega | rfl | assumption | (exact ⟨_, rfl⟩) | (simp (disch := first | omega | assumption | (simp; done) | fail) [*, idx9, cutAB, cutA, cutB, wrap_i64, wrap_nn, ext_size, beq_bytes, app_size, catIf, bemp]; done) | (simp only [ByteArray.size_append, ByteArray.size_extract, bsize_mk]; simp; omega) | (simp [*]; omega) | fail) | (refine Kt_loop ⟨_, ?_, e + 1, w ++ ⟨#[32]⟩ ++ s.extract e.toNat (e + 1).toNat, true, rfl, ?_⟩ <;> (repeat' apply And.intro) <;> first | omega | rfl | assumption | (exact ⟨_, rfl⟩) | (simp (disch := first | omega | assumption | (simp; done) | fail) [*, idx9, cutAB, cutA, cutB, wrap_i64, wrap_nn, ext_size, beq_bytes, app_size, catIf, bemp]; done) | (simp only [ByteArray.size_append, ByteArray.size_extract, bsize_mk]; simp; omega) | (simp [*]; omega) | fail) | (refine Kt_loop ⟨_, ?_, e + 1, w ++ ⟨#[32]⟩ ++ s.extract e.toNat (e + 1).toNat, false, rfl, ?_⟩ <;> (repeat' apply And.intro) <;> first | omega | rfl | assumption | (exact ⟨_, rfl⟩) | (simp (disch := first | omega | assumption | (simp; done) | fail) [*, idx9, cutAB, cutA, cutB, wrap_i64, wrap_nn, ext_size, beq_bytes, app_size, catIf, bemp]; done) | (simp only [ByteArray.size_append, ByteArray.size_extract, bsize_mk]; simp; omega) | (simp [*]; omega) | fail) | (refine Kt_loop ⟨_, ?_, e + 1, w ++ s.extract e.toNat (e + 1).toNat, true, rfl, ?_⟩ <;> (repeat' apply And.intro) <;> first | omega | rfl | assumption | (exact ⟨_, rfl⟩) | (simp (disch := first | omega | assumption | (simp; done) | fail) [*, idx9, cutAB, cutA, cutB, wrap_i64, wrap_nn, ext_size, beq_bytes, app_size, catIf, bemp]; done) | (simp only [ByteArray.size_append, ByteArray.size_extract, bsize_mk]; simp; omega) | (simp [*]; omega) | fail) | (refine Kt_loop ⟨_, ?_, e + 1, w ++ s.extract e.toNat (e + 1).toNat, false, rfl, ?_⟩ <;> (repeat' apply And.intro) <;> first | omega | rfl | assumption | (exact ⟨_, rfl⟩) | (simp (disch := first | omega | assumption | (simp; done) | fail) [*, idx9, cutAB, cutA, cutB, wrap_i64, wrap_nn, ext_size, beq_bytes, app_size, catIf, bemp]; done) | (simp only [ByteArray.size_append, ByteArray.size_extract, bsize_mk]; simp; omega) | (simp [*]; omega) | fail) | (refine Kt_loop ⟨_, ?_, e + 1, s.extract e.toNat (e + 1).toNat, true, rfl, ?_⟩ <;> (repeat' apply And.intro) <;> first | omega | rfl | assumption | (exact ⟨_, rfl⟩) | (simp (disch := first | omega | assumption | (simp; done) | fail) [*, idx9, cutAB, cutA, cutB, wrap_i64, wrap_nn, ext_size, beq_bytes, app_size, catIf, bemp]; done) | (simp only [ByteArray.size_append, ByteArray.size_extract, bsize_mk]; simp; omega) | (simp [*]; omega) | fail) | (refine Kt_loop ⟨_, ?_, e + 1, s.extract e.toNat (e + 1).toNat, false, rfl, ?_⟩ <;> (repeat' apply And.intro) <;> first | omega | rfl | assumption | (exact ⟨_, rfl⟩) | (simp (disch := first | omega | assumption | (simp; done) | fail) [*, idx9, cutAB, cutA, cutB, wrap_i64, wrap_nn, ext_size, beq_bytes, app_size, catIf, bemp]; done) | (simp only [ByteArray.size_append, ByteArray.size_extract, bsize_mk]; simp; omega) | (simp [*]; omega) | fail) | skip
set_option maxHeartbeats 4000000
theorem wAddress (H : AS) (s : ByteArray) (a : Int) (hs : s.size ≤ 65536) (h0 : 0 ≤ a) (ha : a ≤ s.size) : ACalls Tryz.prog 107 [ps s, pi a] H fun q H' => (∃ e : Int, q = pi e ∧ (e = -1 ∨ a ≤ e ∧ e ≤ s.size)) ∧ H' = H := by
  refine ACalls_intro Tryz.func107 rfl (by kernel_rfl) (by simp) fun hwf hbel => ?_
  obtain ⟨m, hm, hm2⟩ : ∃ m : Int, (if a + 3 < (s.size : Int) then a + 3 else (s.size : Int)) = m ∧ (m = a + 3 ∧ a + 3 ≤ s.size ∨ m = s.size ∧ (s.size : Int) < a + 3) := by
    refine ⟨_, rfl, ?_⟩; split <;> omega
  repeat' first
    | (refine T_jr 2 (fun F H' => ∃ u : ByteArray, F 0 = ps s ∧ F 1 = pi a ∧ F 5 = ps u ∧ 3 ≤ u.size ∧ a + 3 ≤ s.size ∧ H = H') ?_ ?_)
    | refine T_seq ?_
    | refine T_rgn ?_
    | refine T_cd ?_
    | refine T_sk ?_
    | refine T_rt ?_
    | refine T_block ?_
    | refine T_ex ?_
    | refine Kt_then ?_
    | refine Kt_block ?_
    | refine Kr_then ?_
    | refine Kr_block ?_
    | refine Ke_here ?_
    | refine Ke_then ?_
    | refine Hid.mk ?_
    | (refine Kt_thenK ?_; exact ⟨u, by simp [*], by simp [*], by simp [*], by omega, by omega, rfl⟩)
    | refine Kr_thenK ?_
    | (refine Jn.mk ?_; rintro F1 H1 ⟨u, g0, g1, g5, hu3, ha3, rfl⟩)
    | (refine callR (wDigit _ _) ?_; rintro _ Hz ⟨⟨_, rfl⟩, hz⟩; subst Hz)
    | (refine callR (wInner _ _) ?_; rintro _ Hz ⟨⟨_, rfl⟩, hz⟩; subst Hz)
    | (refine callR (wUpper _ _ (by rw [ByteArray.size_extract]; omega)) ?_; rintro _ Hz ⟨⟨u, rfl, hu⟩, hz⟩; rw [ByteArray.size_extract] at hu; subst Hz)
    | refine Gs.mk (fun g => ?_) (fun g => ?_) <;> (try simp only [nm] at g) <;> try (exfalso; first | contradiction | omega)
    | refine Gr.mk (fun g => ?_) (fun g => ?_) <;> (try simp only [nm] at g) <;> try (exfalso; first | contradiction | omega)
    | (refine Run.of ?_; simp (maxSteps := 1000000) (disch := first | omega | assumption | (simp; done) | fail) [*, idx9, cutAB, cutA, cutB, wrap_i64, wrap_nn, ext_size, beq_bytes, app_size, catIf, bemp])
  all_goals (try (refine Kx.mk ?_; refine owes_r (l := [.tmp 4]) (.inr rfl) hwf rfl (by first | (simp (maxDischargeDepth := 20) [*]; done) | (repeat (first | exact AS.Ext.refl _ | assumption | refine AS.Ext.bump ?_ | refine AS.Ext.setBox (by first | omega | (simp; omega) | (simp; done)) ?_))) ?_ <;> (try simp (maxDischargeDepth := 20) [resP, packed, plain1_agg, plain1_sl, bemp, and_assoc, aload, partOf, *]) <;> (try ((repeat' apply And.intro) <;> first | omega | fail))))
  refine T_lp (fun k F H' => ∃ (e : Int) (u : ByteArray), k = ((s.size : Int) - e).toNat ∧ F 0 = ps s ∧ F 5 = ps u ∧ F 6 = pi (a + 3) ∧ F 7 = pi e ∧ a + 3 ≤ e ∧ e ≤ s.size ∧ 3 ≤ u.size ∧ H' = H) (((s.size : Int) - (a + 3)).toNat) ?_ ?_
  · refine ⟨a + 3, u, ?_⟩ <;> (repeat' apply And.intro) <;> first | omega | rfl | assumption | (exact ⟨_, rfl⟩) | (simp (disch := first | omega | assumption | (simp; done) | fail) [*, idx9, cutAB, cutA, cutB, wrap_i64, wrap_nn, ext_size, beq_bytes, app_size, catIf, bemp]; done) | (simp [*]; omega) | fail
  rintro k F H1 ⟨e, u, rfl, g0, g5, g6, g7, he1, he2, hu, rfl⟩
  repeat' first
    | (refine T_jr 2 (fun F H' => ∃ u : ByteArray, F 0 = ps s ∧ F 1 = pi a ∧ F 5 = ps u ∧ 3 ≤ u.size ∧ a + 3 ≤ s.size ∧ H = H') ?_ ?_)
    | refine T_seq ?_
    | refine T_rgn ?_
    | refine T_cd ?_
    | refine T_sk ?_
    | refine T_rt ?_
    | refine T_block ?_
    | refine T_ex ?_
    | refine Kt_then ?_
    | refine Kt_block ?_
    | refine Kr_then ?_
    | refine Kr_block ?_
    | refine Kr_loop ?_
    | refine Ke_here ?_
    | refine Ke_then ?_
    | refine Ke_loop ?_
    | refine Ke_block ?_
    | refine Hid.mk ?_
    | (refine Kt_thenK ?_; exact ⟨u, by simp [*], by simp [*], by simp [*], by omega, by omega, rfl⟩)
    | refine Kr_thenK ?_
    | (refine Jn.mk ?_; rintro F1 H1 ⟨u, g0, g1, g5, hu3, ha3, rfl⟩)
    | (refine callR (wDigit _ _) ?_; rintro _ Hz ⟨⟨_, rfl⟩, hz⟩; subst Hz)
    | (refine callR (wInner _ _) ?_; rintro _ Hz ⟨⟨_, rfl⟩, hz⟩; subst Hz)
    | (refine callR (wUpper _ _ (by rw [ByteArray.size_extract]; omega)) ?_; rintro _ Hz ⟨⟨u, rfl, hu⟩, hz⟩; rw [ByteArray.size_extract] at hu; subst Hz)
    | refine Gs.mk (fun g => ?_) (fun g => ?_) <;> (try simp only [nm] at g) <;> try (exfalso; first | contradiction | omega)
    | refine Gr.mk (fun g => ?_) (fun g => ?_) <;> (try simp only [nm] at g) <;> try (exfalso; first | contradiction | omega)
    | (refine Run.of ?_; simp (maxSteps := 1000000) (disch := first | omega | assumption | (simp; done) | fail) [*, idx9, cutAB, cutA, cutB, wrap_i64, wrap_nn, ext_size, beq_bytes, app_size, catIf, bemp])
  all_goals (try (refine Kx.mk ?_; refine owes_r (l := [.tmp 4]) (.inr rfl) hwf rfl (by first | (simp (maxDischargeDepth := 20) [*]; done) | (repeat (first | exact AS.Ext.refl _ | assumption | refine AS.Ext.bump ?_ | refine AS.Ext.setBox (by first | omega | (simp; omega) | (simp; done)) ?_))) ?_ <;> (try simp (maxDischargeDepth := 20) [resP, packed, plain1_agg, plain1_sl, bemp, and_assoc, aload, partOf, *]) <;> (try ((repeat' apply And.intro) <;> first | omega | fail))))
  all_goals first | (refine Kt_loop ⟨_, ?_, e + 1, u, rfl, ?_⟩ <;> (repeat' apply And.intro) <;> first | omega | rfl | assumption | (exact ⟨_, rfl⟩) | (simp (disch := first | omega | assumption | (simp; done) | fail) [*, idx9, cutAB, cutA, cutB, wrap_i64, wrap_nn, ext_size, beq_bytes, app_size, catIf, bemp]; done) | (simp [*]; omega) | fail) | skip
set_option maxHeartbeats 4000000
theorem wWd (H : AS) (s : ByteArray) (a : Int) (hs : s.size ≤ 65536) (h0 : 0 ≤ a) (ha : a < s.size) : ACalls Tryz.prog 72 [ps s, pi a] H fun q H' => (∃ (kd po en : Int) (tx : ByteArray) (x b : Int) (t : ByteArray) (er : Int), q = .tuple [.agg [pi kd, pi po, pi en, ps tx, k8 x, k64 b, ps t], pi er] ∧ (er = 0 → 0 ≤ en ∧ en ≤ s.size) ∧ tx.size ≤ 131072) ∧ H' = H := by
  refine ACalls_intro Tryz.func72 rfl (by kernel_rfl) (by simp) fun hwf hbel => ?_
  repeat' first
    | refine T_seq ?_
    | refine T_rgn ?_
    | refine T_cd ?_
    | refine T_sk ?_
    | refine T_rt ?_
    | refine T_block ?_
    | refine T_ex ?_
    | refine Kt_then ?_
    | refine Kt_block ?_
    | refine Kr_then ?_
    | refine Kr_block ?_
    | refine Ke_here ?_
    | refine Ke_then ?_
    | refine Hid.mk ?_
    | refine T_dr (id := 21) (fun j => ¬ j = H.next + 1) [] (.free 0 (.free 1 (.free 2 (.sole 3 (.free 4 (.sole 5 (.free 6 (.sole 7 .done)))))))) mix ?_
    | refine T_dr (id := 32) (fun j => ¬ j = H.next + 1) [] (.free 0 (.free 1 (.free 2 (.free 3 (.free 4 (.free 5 (.free 6 (.free 7 (.free 8 (.free 9 (.sole 10 (.free 11 (.sole 12 (.free 13 (.sole 14 .done))))))))))))))) mix ?_
    | refine T_dr (id := 16) (fun j => ¬ j = H.next) [] (.free 0 (.free 1 (.sole 2 (.sole 3 (.free 4 .done))))) mix ?_
    | refine T_dr (id := 22) (fun j => ¬ j = H.next) [] (.free 0 (.free 1 (.sole 2 (.sole 3 (.free 4 .done))))) mix ?_
    | refine And.intro (fun _ h1 h2 => absurd h2 h1) ?_
    | (refine callR (wPragma _ _ (by first | omega | (rw [ByteArray.size_extract]; omega))) ?_; rintro _ Hz ⟨⟨pw, rfl, hpw⟩, hz⟩; subst Hz)
    | (refine callR (wText _ _ _ hs (by omega) (by omega)) ?_; rintro _ Hz ⟨⟨tw, te, tk, rfl, ht1, ht2⟩, hz⟩; subst Hz)
    | (refine callR (wLetter _ _) ?_; rintro _ Hz ⟨⟨_, rfl⟩, hz⟩; subst Hz)
    | (refine callR (wDigit _ _) ?_; rintro _ Hz ⟨⟨_, rfl⟩, hz⟩; subst Hz)
    | (refine callR (wNamed _ _ _ hs (by omega) (by omega)) ?_; rintro _ Hz ⟨⟨_, _, en, tx, _, _, _, er, rfl, hn1, hn2⟩, hz⟩; subst Hz)
    | (refine callR (wNumber _ _ _ hs (by omega) (by omega)) ?_; rintro _ Hz ⟨⟨_, _, _, ne, _, rfl, hm1, hm2⟩, hz⟩; subst Hz)
    | (refine callR (wAddress _ _ _ hs (by omega) (by omega)) ?_; rintro _ Hz ⟨⟨ae, rfl, hae⟩, hz⟩; subst Hz)
    | (refine callR (wUpper _ _ (by first | omega | (rw [ByteArray.size_extract]; omega))) ?_; rintro _ Hz ⟨⟨uw, rfl, hu⟩, hz⟩; try rw [ByteArray.size_extract] at hu; subst Hz)
    | (refine callR (wMark _ _ _ hs (by omega) (by omega)) ?_; rintro _ Hz ⟨⟨mn, rfl, hk1, hk2⟩, hz⟩; subst Hz)
    | (refine callR (wN31 _ _) ?_; rintro _ Hz ⟨⟨_, rfl⟩, hz⟩; subst Hz)
    | refine Gs.mk (fun g => ?_) (fun g => ?_) <;> (try simp only [nm] at g) <;> try (exfalso; first | contradiction | omega)
    | refine Gr.mk (fun g => ?_) (fun g => ?_) <;> (try simp only [nm] at g) <;> try (exfalso; first | contradiction | omega)
    | (refine Run.of ?_; simp (maxSteps := 1000000) (disch := first | omega | assumption | (simp; done) | fail) [*, idx9, cutAB, cutA, cutB, wrap_i64, wrap_nn, ext_size, beq_bytes, app_size, catIf, bemp])
  all_goals (try (refine Kx.mk ?_; refine owes_r (l := [.cell 4 151, .tmp 5]) (.inr rfl) hwf rfl (by first | (simp (maxDischargeDepth := 20) [*]; done) | (repeat (first | exact AS.Ext.refl _ | assumption | refine AS.Ext.bump ?_ | refine AS.Ext.setBox (by first | omega | (simp; omega) | (simp; done)) ?_))) ?_ <;> (try simp (maxDischargeDepth := 20) [resP, packed, plain1_agg, plain1_sl, bemp, and_assoc, aload, partOf, *]) <;> (try ((repeat' apply And.intro) <;> first | omega | assumption | (intro _; omega) | (intro h; exact hn1 h) | (rw [ByteArray.size_extract]; omega) | (simp; done) | fail))))
  refine T_lp (fun k F H' => ∃ e : Int, k = ((s.size : Int) - e).toNat ∧ F 0 = ps s ∧ F 1 = pi a ∧ F 4 = .ptr H.next 1 0 0 ∧ F 6 = .ptr (H.next + 1) 1 0 0 ∧ F 8 = pi e ∧ (e = a ∨ a + 1 ≤ e) ∧ e ≤ s.size ∧ H'.next = H.next + 2 ∧ H'.box H.next = some [[pi 0, pi 0, pi 0, ps ⟨#[]⟩, k8 0, k64 0, ps ⟨#[]⟩]] ∧ H'.box (H.next + 1) = some [[pi 0, pi a, pi 0, ps ⟨#[]⟩, k8 0, k64 0, ps ⟨#[]⟩]] ∧ H.Ext H') (((s.size : Int) - a).toNat) ?_ ?_
  · refine ⟨a, ?_⟩ <;> (repeat' apply And.intro) <;> first | omega | rfl | assumption | (exact ⟨_, rfl⟩) | (simp (disch := first | omega | assumption | (simp; done) | fail) [*, idx9, cutAB, cutA, cutB, wrap_i64, wrap_nn, ext_size, beq_bytes, app_size, catIf, bemp]; done) | ((repeat (first | exact AS.Ext.refl _ | assumption | refine AS.Ext.bump ?_ | refine AS.Ext.setBox (by first | omega | (simp; omega) | (simp; done)) ?_)); done) | (simp [*]; omega) | fail
  rintro k F H1 ⟨e, rfl, g0, g1, g4, g6, g8, rfl | he1, he2, hn, hb0, hb1, hx⟩
  repeat' first
    | refine T_seq ?_
    | refine T_rgn ?_
    | refine T_cd ?_
    | refine T_sk ?_
    | refine T_rt ?_
    | refine T_block ?_
    | refine T_ex ?_
    | refine Kt_then ?_
    | refine Kt_block ?_
    | refine Kr_then ?_
    | refine Kr_block ?_
    | refine Kr_loop ?_
    | refine Ke_here ?_
    | refine Ke_then ?_
    | refine Ke_loop ?_
    | refine Ke_block ?_
    | refine Hid.mk ?_
    | refine T_dr (id := 21) (fun j => ¬ j = H.next + 1) [] (.free 0 (.free 1 (.free 2 (.sole 3 (.free 4 (.sole 5 (.free 6 (.sole 7 .done)))))))) mix ?_
    | refine T_dr (id := 32) (fun j => ¬ j = H.next + 1) [] (.free 0 (.free 1 (.free 2 (.free 3 (.free 4 (.free 5 (.free 6 (.free 7 (.free 8 (.free 9 (.sole 10 (.free 11 (.sole 12 (.free 13 (.sole 14 .done))))))))))))))) mix ?_
    | refine T_dr (id := 16) (fun j => ¬ j = H.next) [] (.free 0 (.free 1 (.sole 2 (.sole 3 (.free 4 .done))))) mix ?_
    | refine T_dr (id := 22) (fun j => ¬ j = H.next) [] (.free 0 (.free 1 (.sole 2 (.sole 3 (.free 4 .done))))) mix ?_
    | refine And.intro (fun _ h1 h2 => absurd h2 h1) ?_
    | (refine callR (wPragma _ _ (by first | omega | (rw [ByteArray.size_extract]; omega))) ?_; rintro _ Hz ⟨⟨pw, rfl, hpw⟩, hz⟩; subst Hz)
    | (refine callR (wText _ _ _ hs (by omega) (by omega)) ?_; rintro _ Hz ⟨⟨tw, te, tk, rfl, ht1, ht2⟩, hz⟩; subst Hz)
    | (refine callR (wLetter _ _) ?_; rintro _ Hz ⟨⟨_, rfl⟩, hz⟩; subst Hz)
    | (refine callR (wDigit _ _) ?_; rintro _ Hz ⟨⟨_, rfl⟩, hz⟩; subst Hz)
    | (refine callR (wNamed _ _ _ hs (by omega) (by omega)) ?_; rintro _ Hz ⟨⟨_, _, en, tx, _, _, _, er, rfl, hn1, hn2⟩, hz⟩; subst Hz)
    | (refine callR (wNumber _ _ _ hs (by omega) (by omega)) ?_; rintro _ Hz ⟨⟨_, _, _, ne, _, rfl, hm1, hm2⟩, hz⟩; subst Hz)
    | (refine callR (wAddress _ _ _ hs (by omega) (by omega)) ?_; rintro _ Hz ⟨⟨ae, rfl, hae⟩, hz⟩; subst Hz)
    | (refine callR (wUpper _ _ (by first | omega | (rw [ByteArray.size_extract]; omega))) ?_; rintro _ Hz ⟨⟨uw, rfl, hu⟩, hz⟩; try rw [ByteArray.size_extract] at hu; subst Hz)
    | (refine callR (wMark _ _ _ hs (by omega) (by omega)) ?_; rintro _ Hz ⟨⟨mn, rfl, hk1, hk2⟩, hz⟩; subst Hz)
    | (refine callR (wN31 _ _) ?_; rintro _ Hz ⟨⟨_, rfl⟩, hz⟩; subst Hz)
    | refine Gs.mk (fun g => ?_) (fun g => ?_) <;> (try simp only [nm] at g) <;> try (exfalso; first | contradiction | omega)
    | refine Gr.mk (fun g => ?_) (fun g => ?_) <;> (try simp only [nm] at g) <;> try (exfalso; first | contradiction | omega)
    | (refine Run.of ?_; simp (maxSteps := 1000000) (disch := first | omega | assumption | (simp; done) | fail) [*, idx9, cutAB, cutA, cutB, wrap_i64, wrap_nn, ext_size, beq_bytes, app_size, catIf, bemp])
  all_goals (try (refine Kx.mk ?_; refine owes_r (l := [.cell 4 151, .tmp 5]) (.inr rfl) hwf rfl (by first | (simp (maxDischargeDepth := 20) [*]; done) | (repeat (first | exact AS.Ext.refl _ | assumption | refine AS.Ext.bump ?_ | refine AS.Ext.setBox (by first | omega | (simp; omega) | (simp; done)) ?_))) ?_ <;> (try simp (maxDischargeDepth := 20) [resP, packed, plain1_agg, plain1_sl, bemp, and_assoc, aload, partOf, *]) <;> (try ((repeat' apply And.intro) <;> first | omega | assumption | (intro _; omega) | (intro h; exact hn1 h) | (rw [ByteArray.size_extract]; omega) | (simp; done) | fail))))
  all_goals first | (refine Kt_loop ⟨_, ?_, e + 1, rfl, ?_⟩ <;> (repeat' apply And.intro) <;> first | omega | rfl | assumption | (exact ⟨_, rfl⟩) | (simp (disch := first | omega | assumption | (simp; done) | fail) [*, idx9, cutAB, cutA, cutB, wrap_i64, wrap_nn, ext_size, beq_bytes, app_size, catIf, bemp]; done) | ((repeat (first | exact AS.Ext.refl _ | assumption | refine AS.Ext.bump ?_ | refine AS.Ext.setBox (by first | omega | (simp; omega) | (simp; done)) ?_)); done) | (simp [*]; omega) | fail) | (refine Kt_loop ⟨_, ?_, a + 1, rfl, ?_⟩ <;> (repeat' apply And.intro) <;> first | omega | rfl | assumption | (exact ⟨_, rfl⟩) | (simp (disch := first | omega | assumption | (simp; done) | fail) [*, idx9, cutAB, cutA, cutB, wrap_i64, wrap_nn, ext_size, beq_bytes, app_size, catIf, bemp]; done) | ((repeat (first | exact AS.Ext.refl _ | assumption | refine AS.Ext.bump ?_ | refine AS.Ext.setBox (by first | omega | (simp; omega) | (simp; done)) ?_)); done) | (simp [*]; omega) | fail) | skip
set_option maxHeartbeats 4000000
theorem at_ext {s : ByteArray} {e : Int} {n : Nat} {c d : UInt8} (h0 : 0 ≤ e) (h : s.extract e.toNat n = { data := #[c, d] }) : byteAt s e = (c.toNat : Int) := by
  have h1 : (s.extract e.toNat n).data.toList[0]? = some c := by rw [h]; rfl
  unfold byteAt
  rw [ByteArray.data_extract, Array.toList_extract] at h1
  simp [List.getElem?_take] at h1
  simp [h1.2]
theorem at_47 {s : ByteArray} {e : Int} {n : Nat} (h0 : 0 ≤ e) (h : s.extract e.toNat n = { data := #[47, 47] }) : byteAt s e = 47 := by
  have := at_ext h0 h; exact this
theorem wSkip (H : AS) (s : ByteArray) (a : Int) (hs : s.size ≤ 65536) (h0 : 0 ≤ a) (ha : a ≤ s.size) : ACalls Tryz.prog 71 [ps s, pi a] H fun q H' => (∃ (e : Int) (o : Bool), q = .tuple [pi e, pb o] ∧ a ≤ e ∧ e ≤ s.size) ∧ H' = H := by
  refine ACalls_intro Tryz.func71 rfl (by kernel_rfl) (by simp) fun hwf hbel => ?_
  have hmin : ∀ e : Int, e < s.size → (if e + 2 < (s.size : Int) then e + 2 else (s.size : Int)) ≤ s.size ∧ e ≤ (if e + 2 < (s.size : Int) then e + 2 else (s.size : Int)) := by
    intro e he; split <;> omega
  repeat' first
    | refine T_seq ?_
    | refine T_rgn ?_
    | refine T_cd ?_
    | refine T_sk ?_
    | refine T_rt ?_
    | refine T_block ?_
    | refine T_ex ?_
    | refine Kt_then ?_
    | refine Kt_block ?_
    | refine Kr_then ?_
    | refine Kr_block ?_
    | refine Ke_here ?_
    | refine Ke_then ?_
    | refine Hid.mk ?_
    | (refine callR (wBlank _ _) ?_; rintro _ Hz ⟨⟨_, rfl⟩, hz⟩; subst Hz)
    | refine Gs.mk (fun g => ?_) (fun g => ?_) <;> (try simp only [nm] at g) <;> try (exfalso; first | contradiction | omega)
    | refine Gr.mk (fun g => ?_) (fun g => ?_) <;> (try simp only [nm] at g) <;> try (exfalso; first | contradiction | omega)
    | (refine Run.of ?_; simp (maxSteps := 1000000) (disch := first | omega | assumption | (simp; done) | fail) [*, idx9, cutAB, cutA, cutB, wrap_i64, wrap_nn, ext_size, beq_bytes, app_size, catIf, bemp])
  all_goals (try (refine Kx.mk ?_; refine owes_r (l := [.tmp 4, .tmp 5]) (.inr rfl) hwf rfl (by first | (simp (maxDischargeDepth := 20) [*]; done) | (repeat (first | exact AS.Ext.refl _ | assumption | refine AS.Ext.bump ?_ | refine AS.Ext.setBox (by first | omega | (simp; omega) | (simp; done)) ?_))) ?_ <;> (try simp (maxDischargeDepth := 20) [resP, packed, plain1_agg, plain1_sl, bemp, and_assoc, aload, partOf, *]) <;> (try ((repeat' apply And.intro) <;> first | omega | fail))))
  refine T_lp (fun k F H' => ∃ e : Int, k = ((s.size : Int) - e).toNat ∧ F 0 = ps s ∧ F 1 = pi e ∧ a ≤ e ∧ e ≤ s.size ∧ H = H') (((s.size : Int) - a).toNat) ?_ ?_
  · refine ⟨a, ?_⟩ <;> (repeat' apply And.intro) <;> first | omega | rfl | assumption | (exact ⟨_, rfl⟩) | (simp (disch := first | omega | assumption | (simp; done) | fail) [*, idx9, cutAB, cutA, cutB, wrap_i64, wrap_nn, ext_size, beq_bytes, app_size, catIf, bemp]; done) | (simp [*]; omega) | fail
  rintro k F H1 ⟨e, rfl, g0, g1, he1, he2, rfl⟩
  have hm1 := fun h => (hmin e h).1
  have hm2 := fun h => (hmin e h).2
  repeat' first
    | refine T_seq ?_
    | refine T_rgn ?_
    | refine T_cd ?_
    | refine T_sk ?_
    | refine T_rt ?_
    | refine T_block ?_
    | refine T_ex ?_
    | refine Kt_then ?_
    | refine Kt_block ?_
    | refine Kr_then ?_
    | refine Kr_block ?_
    | refine Kr_loop ?_
    | refine Ke_here ?_
    | refine Ke_then ?_
    | refine Ke_loop ?_
    | refine Ke_block ?_
    | refine Hid.mk ?_
    | (refine callR (wBlank _ _) ?_; rintro _ Hz ⟨⟨_, rfl⟩, hz⟩; subst Hz)
    | refine Gs.mk (fun g => ?_) (fun g => ?_) <;> (try simp only [nm] at g) <;> try (exfalso; first | contradiction | omega)
    | refine Gr.mk (fun g => ?_) (fun g => ?_) <;> (try simp only [nm] at g) <;> try (exfalso; first | contradiction | omega)
    | (refine Run.of ?_; simp (maxSteps := 1000000) (disch := first | omega | assumption | (simp; done) | fail) [*, idx9, cutAB, cutA, cutB, wrap_i64, wrap_nn, ext_size, beq_bytes, app_size, catIf, bemp])
  all_goals (try (refine Kx.mk ?_; refine owes_r (l := [.tmp 4, .tmp 5]) (.inr rfl) hwf rfl (by first | (simp (maxDischargeDepth := 20) [*]; done) | (repeat (first | exact AS.Ext.refl _ | assumption | refine AS.Ext.bump ?_ | refine AS.Ext.setBox (by first | omega | (simp; omega) | (simp; done)) ?_))) ?_ <;> (try simp (maxDischargeDepth := 20) [resP, packed, plain1_agg, plain1_sl, bemp, and_assoc, aload, partOf, *]) <;> (try ((repeat' apply And.intro) <;> first | omega | fail))))
  all_goals first | (refine Kt_loop ⟨_, ?_, e + 1, rfl, ?_⟩ <;> (repeat' apply And.intro) <;> first | omega | rfl | assumption | (exact ⟨_, rfl⟩) | (simp (disch := first | omega | assumption | (simp; done) | fail) [*, idx9, cutAB, cutA, cutB, wrap_i64, wrap_nn, ext_size, beq_bytes, app_size, catIf, bemp]; done) | (simp [*]; omega) | fail) | skip
  all_goals (try (refine Kx.mk ?_; refine owes_r (l := [.tmp 4, .tmp 5]) (.inr rfl) hwf rfl (by first | (simp (maxDischargeDepth := 20) [*]; done) | (repeat (first | exact AS.Ext.refl _ | assumption | refine AS.Ext.bump ?_ | refine AS.Ext.setBox (by first | omega | (simp; omega) | (simp; done)) ?_))) ?_ <;> (try simp (maxDischargeDepth := 20) [resP, packed, plain1_agg, plain1_sl, bemp, and_assoc, aload, partOf, *]) <;> (try ((repeat' apply And.intro) <;> first | omega | fail))))
  refine T_lp (fun k F H' => ∃ e2 : Int, k = ((s.size : Int) - e2).toNat ∧ F 0 = ps s ∧ F 1 = pi e2 ∧ e ≤ e2 ∧ e2 ≤ s.size ∧ H = H') (((s.size : Int) - e).toNat) ?_ ?_
  · refine ⟨e, ?_⟩ <;> (repeat' apply And.intro) <;> first | omega | rfl | assumption | (exact ⟨_, rfl⟩) | (simp (disch := first | omega | assumption | (simp; done) | fail) [*, idx9, cutAB, cutA, cutB, wrap_i64, wrap_nn, ext_size, beq_bytes, app_size, catIf, bemp]; done) | (simp [*]; omega) | fail
  rintro k F H1 ⟨e2, rfl, g0, g1, he3, he4, rfl⟩
  repeat' first
    | refine T_seq ?_
    | refine T_rgn ?_
    | refine T_cd ?_
    | refine T_sk ?_
    | refine T_rt ?_
    | refine T_block ?_
    | refine T_ex ?_
    | refine Kt_then ?_
    | refine Kt_block ?_
    | refine Kr_then ?_
    | refine Kr_block ?_
    | refine Kr_loop ?_
    | refine Ke_here ?_
    | refine Ke_then ?_
    | refine Ke_loop ?_
    | refine Ke_block ?_
    | refine Hid.mk ?_
    | (refine callR (wBlank _ _) ?_; rintro _ Hz ⟨⟨_, rfl⟩, hz⟩; subst Hz)
    | refine Gs.mk (fun g => ?_) (fun g => ?_) <;> (try simp only [nm] at g) <;> try (exfalso; first | contradiction | omega)
    | refine Gr.mk (fun g => ?_) (fun g => ?_) <;> (try simp only [nm] at g) <;> try (exfalso; first | contradiction | omega)
    | (refine Run.of ?_; simp (maxSteps := 1000000) (disch := first | omega | assumption | (simp; done) | fail) [*, idx9, cutAB, cutA, cutB, wrap_i64, wrap_nn, ext_size, beq_bytes, app_size, catIf, bemp])
  all_goals (try (refine Kx.mk ?_; refine owes_r (l := [.tmp 4, .tmp 5]) (.inr rfl) hwf rfl (by first | (simp (maxDischargeDepth := 20) [*]; done) | (repeat (first | exact AS.Ext.refl _ | assumption | refine AS.Ext.bump ?_ | refine AS.Ext.setBox (by first | omega | (simp; omega) | (simp; done)) ?_))) ?_ <;> (try simp (maxDischargeDepth := 20) [resP, packed, plain1_agg, plain1_sl, bemp, and_assoc, aload, partOf, *]) <;> (try ((repeat' apply And.intro) <;> first | omega | fail))))
  all_goals first | (refine Kt_loop ⟨_, ?_, e2 + 1, rfl, ?_⟩ <;> (repeat' apply And.intro) <;> first | omega | rfl | assumption | (exact ⟨_, rfl⟩) | (simp (disch := first | omega | assumption | (simp; done) | fail) [*, idx9, cutAB, cutA, cutB, wrap_i64, wrap_nn, ext_size, beq_bytes, app_size, catIf, bemp]; done) | (simp [*]; omega) | fail) | (refine Kt_loop ⟨_, ?_, e2, rfl, ?_⟩ <;> (repeat' apply And.intro) <;> first | omega | rfl | assumption | (exact ⟨_, rfl⟩) | (simp (disch := first | omega | assumption | (simp; done) | fail) [*, idx9, cutAB, cutA, cutB, wrap_i64, wrap_nn, ext_size, beq_bytes, app_size, catIf, bemp]; done) | (have hq := at_47 (s := s) (e := e) (by omega) (by assumption); have hne : e2 ≠ e := (fun h => by subst h; omega); omega) | (simp [*]; omega) | fail) | skip
  all_goals (try (refine Kx.mk ?_; refine owes_r (l := [.tmp 4, .tmp 5]) (.inr rfl) hwf rfl (by first | (simp (maxDischargeDepth := 20) [*]; done) | (repeat (first | exact AS.Ext.refl _ | assumption | refine AS.Ext.bump ?_ | refine AS.Ext.setBox (by first | omega | (simp; omega) | (simp; done)) ?_))) ?_ <;> (try simp (maxDischargeDepth := 20) [resP, packed, plain1_agg, plain1_sl, bemp, and_assoc, aload, partOf, *]) <;> (try ((repeat' apply And.intro) <;> first | omega | fail))))
  refine T_lp (fun k F H' => ∃ e2 : Int, k = ((s.size : Int) - e2).toNat ∧ F 0 = ps s ∧ F 1 = pi e ∧ F 7 = pi e2 ∧ e + 2 ≤ e2 ∧ e2 ≤ s.size + 2 ∧ H = H') (((s.size : Int) - (e + 2)).toNat) ?_ ?_
  · refine ⟨e + 2, ?_⟩ <;> (repeat' apply And.intro) <;> first | omega | rfl | assumption | (exact ⟨_, rfl⟩) | (simp (disch := first | omega | assumption | (simp; done) | fail) [*, idx9, cutAB, cutA, cutB, wrap_i64, wrap_nn, ext_size, beq_bytes, app_size, catIf, bemp]; done) | (simp [*]; omega) | fail
  rintro k F H1 ⟨e2, rfl, g0, g1, g7, he3, he4, rfl⟩
  repeat' first
    | refine T_seq ?_
    | refine T_rgn ?_
    | refine T_cd ?_
    | refine T_sk ?_
    | refine T_rt ?_
    | refine T_block ?_
    | refine T_ex ?_
    | refine Kt_then ?_
    | refine Kt_block ?_
    | refine Kr_then ?_
    | refine Kr_block ?_
    | refine Kr_loop ?_
    | refine Ke_here ?_
    | refine Ke_then ?_
    | refine Ke_loop ?_
    | refine Ke_block ?_
    | refine Hid.mk ?_
    | (refine callR (wBlank _ _) ?_; rintro _ Hz ⟨⟨_, rfl⟩, hz⟩; subst Hz)
    | refine Gs.mk (fun g => ?_) (fun g => ?_) <;> (try simp only [nm] at g) <;> try (exfalso; first | contradiction | omega)
    | refine Gr.mk (fun g => ?_) (fun g => ?_) <;> (try simp only [nm] at g) <;> try (exfalso; first | contradiction | omega)
    | (refine Run.of ?_; simp (maxSteps := 1000000) (disch := first | omega | assumption | (simp; done) | fail) [*, idx9, cutAB, cutA, cutB, wrap_i64, wrap_nn, ext_size, beq_bytes, app_size, catIf, bemp])
  all_goals (try (refine Kx.mk ?_; refine owes_r (l := [.tmp 4, .tmp 5]) (.inr rfl) hwf rfl (by first | (simp (maxDischargeDepth := 20) [*]; done) | (repeat (first | exact AS.Ext.refl _ | assumption | refine AS.Ext.bump ?_ | refine AS.Ext.setBox (by first | omega | (simp; omega) | (simp; done)) ?_))) ?_ <;> (try simp (maxDischargeDepth := 20) [resP, packed, plain1_agg, plain1_sl, bemp, and_assoc, aload, partOf, *]) <;> (try ((repeat' apply And.intro) <;> first | omega | fail))))
  all_goals first | (refine Kt_loop ⟨_, ?_, e2 + 1, rfl, ?_⟩ <;> (repeat' apply And.intro) <;> first | omega | rfl | assumption | (exact ⟨_, rfl⟩) | (simp (disch := first | omega | assumption | (simp; done) | fail) [*, idx9, cutAB, cutA, cutB, wrap_i64, wrap_nn, ext_size, beq_bytes, app_size, catIf, bemp]; done) | (simp [*]; omega) | fail) | (refine Kt_loop ⟨_, ?_, e2 + 2, rfl, ?_⟩ <;> (repeat' apply And.intro) <;> first | omega | rfl | assumption | (exact ⟨_, rfl⟩) | (simp (disch := first | omega | assumption | (simp; done) | fail) [*, idx9, cutAB, cutA, cutB, wrap_i64, wrap_nn, ext_size, beq_bytes, app_size, catIf, bemp]; done) | (simp [*]; omega) | fail) | skip
end
end Go.Abs
