/- Texts of ours, merged: the abstract layer, the walks over the loaded functions, the plain laws. -/
import Derived.Test.YthabhakehajjnaaGreatDoorA4
import Derived.Shelf.Strconv.Itoa0
import Derived.Shelf.Strconv.Itoa1
import Derived.Shelf.LaysM
import Derived.Shelf.Strconv.Itoa2
import Derived.Shelf.Strconv.Itoa3
import Derived.Shelf.Strings.Search1
import Derived.Shelf.Strings.Search2
import Derived.Shelf.Strings.Cut
import Derived.Test.YthabhakehajjnaaGreatDoorProg
import Derived.Lib.ItoaLen
import Derived.Test.YthabhakehajjnaaGreatDoorRows
import Derived.Test.YthabhakehajjnaaGreatDoorTie
import Derived.Test.YthabhakehajjnaaGreatDoorCards
import Derived.ProofKit
import Derived.LaidMore
import Derived.OpenShut
import Derived.Stop.Joined
import Derived.Deep.DeepHandedRow
import Derived.Deep.DeepWitnessRowRef
import Derived.Lib.LaidTab
import Derived.MakeChecks
namespace Go.Abs
open Go.Proofs
set_option autoImplicit false
set_option linter.all false
set_option maxRecDepth 100000
set_option maxHeartbeats 40000000
section
set_option maxHeartbeats 4000000
attribute [local simp ↓] wanted_at hbind_some
attribute [local simp] Gs_true Gs_false gcond_Gr Gr_true Gr_false abox frame0 int_beq int_bne aload astore partOf Keeps Same splice aUn aFieldAddr aField aBin aBinV aConvert aExtract aLen aBuild aBuild.go aalloc AS.Ext.refl AS.Ext.bump AS.Ext.setBox
theorem outLen {lo : Nat} {H : AS} {p : PV} {sz : Nat} {rows : List (List PV)} (h : OutIs lo H p sz rows) : lenOf p = some rows.length := by
  rcases h with ⟨rfl, rfl⟩ | ⟨id, _, _, rfl, _⟩ <;> rfl
theorem tok_below (n : Nat) (l : List LTok) : ∀ r ∈ l.map LTok.row, ∀ p ∈ r, Below n p := by
  intro x hx p hp
  obtain ⟨t, _, rfl⟩ := List.mem_map.1 hx
  simp only [LTok.row, List.mem_cons, List.not_mem_nil, or_false] at hp
  rcases hp with rfl | rfl | rfl | rfl | rfl | rfl | rfl <;> exact .val _
theorem tok_app {l : List LTok} {kd po en : Int} {tx : ByteArray} {v : DVal} (h : ∀ t ∈ l, t.ok) (h' : tx.size ≤ 131072) : ∀ t ∈ l ++ [(⟨kd, po, en, tx, v⟩ : LTok)], t.ok := by
  intro t ht
  rcases List.mem_append.1 ht with ht | ht
  · exact h t ht
  · rw [List.mem_singleton] at ht; subst ht; exact h'
theorem wScan (H : AS) (s : ByteArray) : ACalls Tryz.prog 25 [ps s] H fun q H' => (∃ (l : List LTok) (a e : Int), q = .tuple [PV.sl H.color 7 (l.map LTok.row), pi a, pi e] ∧ (∀ t ∈ l, t.ok) ∧ l.length ≤ 16384) ∧ H' = H := by
  refine ACalls_intro Tryz.func25 rfl (by kernel_rfl) (by simp) fun hwf hbel => ?_
  repeat' first
    | refine T_seq ?_
    | refine T_rgn ?_
    | refine T_cd ?_
    | refine T_sk ?_
    | refine T_rt ?_
    | refine T_block ?_
    | refine T_ex ?_
    | refine Kt_then ?_
    | refine Kt_block ?_
    | refine Kr_then ?_
    | refine Kr_block ?_
    | refine Ke_here ?_
    | refine Ke_then ?_
    | refine Hid.mk ?_
    | (refine callR (wSkip _ _ _ (by first | omega | (simp at *; omega)) (by omega) (by omega)) ?_; rintro _ Hz ⟨⟨se, so, rfl, hse1, hse2⟩, hz⟩; subst Hz)
    | refine Gs.mk (fun g => ?_) (fun g => ?_) <;> (try simp only [nm] at g) <;> try (exfalso; first | contradiction | omega)
    | refine Gr.mk (fun g => ?_) (fun g => ?_) <;> (try simp only [nm] at g) <;> try (exfalso; first | contradiction | omega)
    | (refine Run.of ?_; simp (maxSteps := 1000000) (disch := first | omega | assumption | (simp; done) | fail) [*, idx9, cutAB, cutA, cutB, wrap_i64, wrap_nn, ext_size, beq_bytes, app_size, catIf, bemp])
  all_goals (try (refine Kx.mk ?_; refine owes_at_out (H1 := H) (lo := H.next) (sz := 7) (rows := []) (l := [.tmp 2, .tmp 3, .tmp 4]) (.inr rfl) hwf (Nat.le_refl _) rfl (by repeat (first | exact AS.Ext.refl _ | assumption | refine AS.Ext.bump ?_ | refine AS.Ext.setBox (by first | omega | (simp; omega)) ?_)) (Nat.le_refl _) (by simp) ?_; exact ⟨_, [pi _, pi _], rfl, .nil, by simp, by simp, ⟨[], _, _, rfl, by simp, by simp⟩, rfl⟩))
  refine T_lp (fun k F H' => ∃ (l : List LTok) (p : PV) (a : Int) (o : Bool), k = 16384 - l.length ∧ F 0 = ps s ∧ F 5 = p ∧ F 6 = pi a ∧ F 7 = pb o ∧ OutIs H.next H' p 7 (l.map LTok.row) ∧ H.Ext H' ∧ 0 ≤ a ∧ a ≤ s.size ∧ (∀ t ∈ l, t.ok) ∧ l.length ≤ 16384) (16384) ⟨[], .nil, se, so, rfl, by simp, by simp, by simp, by simp, .nil, .refl _, by omega, by omega, by simp, by simp⟩ ?_
  rintro k F H1 ⟨l, p, a, o, rfl, g0, g5, g6, g7, hout, hext, ha0, ha1, hok, hl⟩
  have hpl := outLen hout
  simp only [List.length_map] at hpl
  have hn1 := hext.next
  have hs : s.size ≤ 65536 := by first | omega | (simp at *; omega)
  repeat' first
    | refine T_seq ?_
    | refine T_rgn ?_
    | refine T_cd ?_
    | refine T_sk ?_
    | refine T_rt ?_
    | refine T_block ?_
    | refine T_ex ?_
    | refine Kt_then ?_
    | refine Kt_block ?_
    | refine Kr_then ?_
    | refine Kr_block ?_
    | refine Kr_loop ?_
    | refine Ke_here ?_
    | refine Ke_then ?_
    | refine Ke_loop ?_
    | refine Ke_block ?_
    | refine Hid.mk ?_
    | refine T_dr (id := 10) (fun _ => True) [] (.free 0 (.free 1 (.free 2 (.free 3 (.free 4 (.free 5 .done)))))) mix ?_
    | refine And.intro (fun _ h1 h2 => absurd h2 h1) ?_
    | (refine eitherK.raw ?_; simp (maxSteps := 1000000) (disch := first | omega | assumption | (simp; done) | fail) [*, idx9, cutAB, cutA, cutB, wrap_i64, wrap_nn, ext_size, beq_bytes, app_size, catIf, bemp])
    | (refine app_one (lo := H.next) (rows := l.map LTok.row) (hout.keep (by simp; omega) (fun i hi1 hi2 => by simp [show ¬ i = H1.next by omega, show ¬ i = H1.next + 1 by omega])) (by simp; omega) under73 Tryz.sz151 Tryz.zero151 Tryz.by151 rfl rfl (by decide) (box_sb _ _ _ _) (by simp [Frozen]) (by simp; omega) ?_; rintro p2 H2 hout2 hab hel; have hb2 : H2.box H1.next = some [[pi kd, pi po, pi en, ps tx, k8 x, k64 bb, ps t]] := (by rw [hel.box H1.next (by simp; omega) (fun n s e => by have := hout.at_lt e; omega)]; simp))
    | (refine callR (wWd _ _ _ hs (by omega) (by omega)) ?_; rintro _ Hz ⟨⟨kd, po, en, tx, x, bb, t, er, rfl, hen, htx⟩, hz⟩; subst Hz)
    | (refine callR (wSkip _ _ _ hs (by have := hen (by assumption); omega) (by have := hen (by assumption); omega)) ?_; rintro _ Hz ⟨⟨te, to, rfl, hte1, hte2⟩, hz⟩; subst Hz)
    | refine Gs.mk (fun g => ?_) (fun g => ?_) <;> (try simp only [nm] at g) <;> try (exfalso; first | contradiction | omega)
    | refine Gr.mk (fun g => ?_) (fun g => ?_) <;> (try simp only [nm] at g) <;> try (exfalso; first | contradiction | omega)
    | (refine Run.of ?_; simp (maxSteps := 1000000) (disch := first | omega | assumption | (simp; done) | fail) [*, idx9, cutAB, cutA, cutB, wrap_i64, wrap_nn, ext_size, beq_bytes, app_size, catIf, bemp, box_sb, outLen])
  all_goals first
    | (refine Kx.mk ?_; refine owes_at_out (H1 := H) (lo := H.next) (sz := 7) (rows := []) (l := [.tmp 2, .tmp 3, .tmp 4]) (.inr rfl) hwf (Nat.le_refl _) rfl (by repeat (first | exact AS.Ext.refl _ | assumption | refine AS.Ext.bump ?_ | refine AS.Ext.setBox (by first | omega | (simp; omega)) ?_)) (Nat.le_refl _) (by simp) ?_; exact ⟨_, [pi _, pi _], rfl, .nil, by simp, by simp, ⟨[], _, _, rfl, by simp, by simp⟩, rfl⟩)
    | (refine Kx.mk ?_; refine owes_at_out (H1 := H) (lo := H.next) (sz := 7) (rows := l.map LTok.row) (l := [.tmp 2, .tmp 3, .tmp 4]) (.inr rfl) hwf (Nat.le_refl _) rfl hext (Nat.le_refl _) (tok_below _ _) ?_; exact ⟨_, [pi _, pi _], rfl, hout, by simp, by simp, ⟨l, _, _, rfl, hok, hl⟩, rfl⟩)
    | (refine Kt_loop ⟨16384 - (l.length + 1), by omega, l ++ [⟨kd, po, en, tx, ⟨x, bb, t⟩⟩], p2, te, to, by simp, ?_⟩; (repeat' apply And.intro) <;> first | (simp [*]; done) | (simpa [LTok.row] using hout2) | (exact hab _ (Nat.le_refl _) (by repeat (first | exact AS.Ext.refl _ | assumption | refine AS.Ext.bump ?_ | refine AS.Ext.setBox (by first | omega | (simp; omega)) ?_))) | (have := hen (by assumption); omega) | (exact tok_app hok htx) | (simp; omega) | fail)
    | fail
set_option maxHeartbeats 4000000
structure LRg.good (g : LRg) : Prop where
  ok : LEl.okL g.con
  nm : LEl.nmL g.con
  nc : LEl.nmL g.coils
def rgS : List LRg → Nat
  | [] => 0
  | g :: l => 1 + LEl.sizeL g.con + LEl.sizeL g.coils + rgS l
theorem rgS_append (a b : List LRg) : rgS (a ++ b) = rgS a + rgS b := by
  induction a with
  | nil => simp [rgS]
  | cons x xs ih => simp [rgS, ih, Nat.add_assoc]
theorem rgS_length (l : List LRg) : l.length ≤ rgS l := by
  induction l with
  | nil => simp
  | cons x xs ih => simp [rgS]; omega
theorem rg_below (n c : Nat) (l : List LRg) : ∀ r ∈ l.map (LRg.row c), ∀ p ∈ r, Below n p := by
  intro r hr p hp
  obtain ⟨g, _, rfl⟩ := List.mem_map.1 hr
  simp only [LRg.row, List.mem_cons, List.not_mem_nil, or_false] at hp
  rcases hp with rfl | rfl | rfl
  · exact .val _
  · rw [below_sl]; exact LEl.rows_below _ _ _
  · rw [below_sl]; exact LEl.rows_below _ _ _
theorem rg_app {l : List LRg} {g : LRg} (h : ∀ x ∈ l, x.good) (h' : g.good) : ∀ x ∈ l ++ [g], x.good := by
  intro x hx
  rcases List.mem_append.1 hx with hx | hx
  · exact h x hx
  · rw [List.mem_singleton] at hx; subst hx; exact h'
theorem LRd.rd4 (c : Nat) (en : Int) (r : LRd) : (LRd.row c en r)[4]? = some (pi r.why) := rfl
theorem LRd.rd5 (c : Nat) (en : Int) (r : LRd) : (LRd.row c en r)[5]? = some (pi r.place) := rfl
theorem frozen_pi (n : Int) : Frozen (pi n) := by simp [Frozen]
theorem ext_ofO {H H1 H' : AS} (h : H.Ext H1) (h' : ExtO H.next H1 H') : H.Ext H' :=
  ⟨Nat.le_trans h.next h'.next, fun j hj => by rw [h'.box j (Nat.lt_of_lt_of_le hj h.next) (by omega), h.box j hj], fun j hj => by rw [h'.mp j (Nat.lt_of_lt_of_le hj h.next), h.mp j hj], by rw [h'.color, h.color]⟩
theorem rLadder (H : AS) (s0 : ByteArray) (hcol : H.color < 2) : ACalls Tryz.prog 16 [ps s0] H fun q H' => (∃ (l : List LRg) (a e : Int), q = .tuple [PV.sl H.color 3 (l.map (LRg.row H.color)), pi a, pi e] ∧ (∀ x ∈ l, x.good) ∧ rgS l ≤ 32770) ∧ H' = H := by
  refine ACalls_intro Tryz.func16 rfl (by kernel_rfl) (by simp) fun hwf hbel => ?_
  repeat' first
    | refine T_seq ?_
    | refine T_rgn ?_
    | refine T_cd ?_
    | refine T_sk ?_
    | refine T_rt ?_
    | refine T_block ?_
    | refine T_ex ?_
    | refine Kt_then ?_
    | refine Kt_block ?_
    | refine Kr_then ?_
    | refine Kr_block ?_
    | refine Ke_here ?_
    | refine Ke_then ?_
    | refine Hid.mk ?_
    | (refine callR (wScan _ _) ?_; rintro _ Hz ⟨⟨tl, sa, se, rfl, htok, htl⟩, hz⟩; subst Hz)
    | refine Gs.mk (fun g => ?_) (fun g => ?_) <;> (try simp only [nm] at g) <;> try (exfalso; first | contradiction | omega)
    | refine Gr.mk (fun g => ?_) (fun g => ?_) <;> (try simp only [nm] at g) <;> try (exfalso; first | contradiction | omega)
    | (refine Run.of ?_; simp (maxSteps := 1000000) (disch := first | omega | assumption | (simp; done) | fail) [*, box_sb, frz_nil])
  all_goals (try (refine Kx.mk ?_; refine owes_at_out (H1 := H) (lo := H.next) (sz := 3) (rows := []) (l := [.tmp 2, .tmp 3, .tmp 4]) (.inr rfl) hwf (Nat.le_refl _) rfl (by repeat (first | exact AS.Ext.refl _ | assumption | refine AS.Ext.bump ?_ | refine AS.Ext.setBox (by first | omega | (simp; omega)) ?_)) (Nat.le_refl _) (by simp) ?_; exact ⟨_, [pi _, pi _], rfl, .nil, by simp, by simp, ⟨[], _, _, rfl, by simp, by simp [rgS]⟩, rfl⟩))
  refine T_lp (fun k F H' => ∃ (l : List LRg) (p : PV) (s : LRd), k = s.mu ∧ F 8 = .ptr H.next 1 0 0 ∧ F 9 = p ∧ OutIs (H.next + 1) H' p 3 (l.map (LRg.row H.color)) ∧ H'.box H.next = some [s.row H.color s0.size] ∧ H.Ext H' ∧ H.next < H'.next ∧ s.good ∧ (∀ x ∈ l, x.good) ∧ rgS l + 2 * s.mu ≤ 32770) _ ⟨[], .nil, ⟨tl, 0, 0, 0, 0⟩, rfl, by simp, by simp, .nil, by simp [LRd.row, Nat.mod_eq_of_lt hcol], (by repeat (first | exact AS.Ext.refl _ | assumption | refine AS.Ext.bump ?_ | refine AS.Ext.setBox (by first | omega | (simp; omega)) ?_)), by simp, htok, by simp, by simp [rgS, LRd.mu]; omega⟩ ?_
  rintro k F H1 ⟨l, p, s, rfl, g8, g9, hout, hb1, hext, hlt, hg, hgd, hsz⟩
  have hn1 := hext.next
  have hc1 : H1.color = H.color := hext.color
  have hid1 : ¬ H.next = H1.next := by omega
  have hid2 : ¬ H.next = H1.next + 1 := by omega
  have hid3 : ¬ H1.next = H.next := by omega
  repeat' first
    | refine T_seq ?_
    | refine T_rgn ?_
    | refine T_cd ?_
    | refine T_sk ?_
    | refine T_rt ?_
    | refine T_block ?_
    | refine T_ex ?_
    | refine Kt_then ?_
    | refine Kt_block ?_
    | refine Kr_then ?_
    | refine Kr_block ?_
    | refine Kr_loop ?_
    | refine Ke_here ?_
    | refine Ke_then ?_
    | refine Ke_loop ?_
    | refine Ke_block ?_
    | refine Hid.mk ?_
    | refine T_dr (id := 11) (fun i => i = H1.next) [7] (.free 0 (.free 1 (.free 2 (.sole 3 (.sole 4 (.sole 5 (.free 6 (.sole 7 .done)))))))) mix ?_
    | refine T_dr (id := 17) (fun _ => True) [] (.free 0 (.free 1 (.free 2 (.free 3 (.free 4 (.free 5 (.free 6 (.free 7 (.free 8 (.free 9 (.free 10 (.free 11 (.free 12 .done))))))))))))) mix ?_
    | refine And.intro (fun _ h1 h2 => absurd h2 h1) ?_
    | (refine eitherK.raw ?_; simp (maxSteps := 1000000) (disch := first | omega | assumption | (simp; done) | fail) [*, box_sb])
    | (refine app_one (sz := 4) (rows := []) (lo := H1.next + 1) .nil (by simp) under60 Tryz.sz72 Tryz.zero72 Tryz.by72 rfl rfl (by decide) (box_sb _ _ _ _) (by simp [Frozen]) (by simp) ?_; rintro p3 H3 hout3 hab3 hel3; have hb3 : H3.box H1.next = some [[pi hp, PV.sl H.color 4 (con.map (LEl.row H.color)), .nil]] := (by rw [hel3.box H1.next (by simp; omega) (by simp)]; simp [*]); have hbi3 : H3.box H.next = some [q4.row H.color s0.size] := (by rw [hel3.box H.next (by simp; omega) (by simp)]; simp [*]); have hc3 : H3.color = H.color := (by rw [hel3.color]; simp [*]); have hpc3 := hout3.cells; have hpk3 := hout3.okCells; have hn3 : H1.next < H3.next := (by have := hel3.next; simp at this; omega))
    | (refine callR (rOk _ H.next H.color s0.size s (by first | assumption | exact box_self _ _ _ | (simp [*]; done) | (simp [LRd.row, LRd.setDeep, *]; done) | fail)) ?_; rintro _ Hz ⟨⟨ob, rfl, hob⟩, hz⟩; subst Hz)
    | (refine callR (rHere _ H.next H.color s0.size s (by first | assumption | exact box_self _ _ _ | (simp [*]; done) | (simp [LRd.row, LRd.setDeep, *]; done) | fail)) ?_; rintro _ Hz ⟨⟨hp, rfl⟩, hz⟩; subst Hz)
    | (refine callR (rMust _ H.next H.color s0.size s (by first | assumption | exact box_self _ _ _ | (simp [*]; done) | (simp [LRd.row, LRd.setDeep, *]; done) | fail) _) ?_; rintro _ Hz ⟨q1, rfl, hto1, hmu1, hz⟩; have hlt1 : q1.mu < s.mu := (by have h1 := hto1.mu; have h2 := LRd.mu_pos (hob (by assumption)).1; omega); subst Hz)
    | (refine callR (rContacts q1.mu _ H.next H.color s0.size q1 (by first | assumption | exact box_self _ _ _ | (simp [*]; done) | (simp [LRd.row, LRd.setDeep, *]; done) | fail) (hto1.good hg) (Nat.le_refl _) (by omega)) ?_; rintro _ Hz ⟨con, q2, rfl, hok2, hnm2, hto2, hsz2, hz⟩; subst Hz)
    | (refine callR (rMust _ H.next H.color s0.size q2 (by first | assumption | exact box_self _ _ _ | (simp [*]; done) | (simp [LRd.row, LRd.setDeep, *]; done) | fail) _) ?_; rintro _ Hz ⟨q3, rfl, hto3, hmu3, hz⟩; subst Hz)
    | (refine callR (rCoil _ H.next H.color s0.size q3 (by first | assumption | exact box_self _ _ _ | (simp [*]; done) | (simp [LRd.row, LRd.setDeep, *]; done) | fail) (hto3.good (hto2.good (hto1.good hg)))) ?_; rintro _ Hz ⟨co, ca, cn, q4, rfl, hcn, hto4, hmu4, hz⟩; subst Hz)
    | refine Gs.mk (fun g => ?_) (fun g => ?_) <;> (try simp only [nm] at g) <;> try (exfalso; first | contradiction | omega)
    | refine Gr.mk (fun g => ?_) (fun g => ?_) <;> (try simp only [nm] at g) <;> try (exfalso; first | contradiction | omega)
    | (refine Run.of ?_; simp (maxSteps := 1000000) (disch := first | omega | assumption | (simp; done) | fail) [*, box_sb, frz_nil, LRd.rd4, LRd.rd5, LRd.rdLen])
  all_goals first
    | (refine Kx.mk ?_; refine owes_at_out (H1 := H) (lo := H.next) (sz := 3) (rows := []) (l := [.tmp 2, .tmp 3, .tmp 4]) (.inr rfl) hwf (Nat.le_refl _) rfl (by repeat (first | exact AS.Ext.refl _ | assumption | refine AS.Ext.bump ?_ | refine AS.Ext.setBox (by first | omega | (simp; omega)) ?_)) (Nat.le_refl _) (by simp) ?_; exact ⟨_, [pi _, pi _], rfl, .nil, by simp, by simp, ⟨[], _, _, rfl, by simp, by simp [rgS]⟩, rfl⟩)
    | (refine Kx.mk ?_; refine owes_at_out (H1 := H) (lo := H.next) (sz := 3) (rows := l.map (LRg.row H.color)) (l := [.tmp 2, .tmp 3, .tmp 4]) (.inr rfl) hwf (Nat.le_refl _) rfl hext (Nat.le_refl _) (rg_below _ _ _) ?_; exact ⟨_, [pi _, pi _], rfl, hout.lower (Nat.le_succ _), by simp, by simp, ⟨l, _, _, rfl, hgd, by omega⟩, rfl⟩)
    | skip
  have hg4 : q4.good := hto4.good (hto3.good (hto2.good (hto1.good hg)))
  refine T_lp (fun k F H' => ∃ (cs : List LEl) (p4 : PV) (s5 : LRd), k = s5.mu ∧ F 8 = .ptr H.next 1 0 0 ∧ F 9 = p ∧ F 10 = .ptr H1.next 1 0 0 ∧ OutIs (H1.next + 1) H' p4 4 (cs.map (LEl.row H.color)) ∧ H'.box H1.next = some [[pi hp, PV.sl H.color 4 (con.map (LEl.row H.color)), p4]] ∧ H'.box H.next = some [s5.row H.color s0.size] ∧ ExtO H.next H1 H' ∧ H1.next < H'.next ∧ s5.good ∧ LEl.nmL cs ∧ 1 + LEl.sizeL con + LEl.sizeL cs + 2 * s5.mu ≤ 2 * s.mu ∧ s5.mu < s.mu) (q4.mu) ⟨[.mk co ca cn []], p3, q4, rfl, ?_⟩ ?_
  · (repeat' apply And.intro) <;> first | (simp [*]; done) | (exact OutIs.keep (by simpa [LEl.row, LEl.rowsB] using hout3) (by simp) (fun i h1 h2 => by simp [show ¬ i = H1.next by omega])) | (exact (ExtO.of (hab3 (H1.setBox H.next [q4.row H.color s0.size]) (by simp) (by refine ExtO.to ?_ (by omega) ?_ <;> first | (simp [*]; done) | ((repeat (first | assumption | exact ExtO.refl _ _ | refine ExtO.bump ?_ | refine ExtO.setId ?_ | refine ExtO.setBox (by first | omega | (simp; omega)) ?_)); done) | fail))).setBox (Nat.le_refl _)) | (simp; omega) | assumption | (exact hcn) | (exact trivial) | (have h1 := hto4.mu; have h2 := hto3.mu; have h3 := hto2.mu; simp [LEl.sizeL, LEl.size, LEl.sizeB]; omega) | (have h1 := hto4.mu; have h2 := hto3.mu; have h3 := hto2.mu; omega) | fail
  rintro k F H4 ⟨cs, p4, s5, rfl, g8, g9, g10, hout4, hb6, hb7, hx4, hn4, hg5, hnm5, hsz5, hlt5⟩
  have hp4c := hout4.cells
  have hp4k := hout4.okCells
  have hc4 : H4.color = H.color := by rw [hx4.color]; exact hc1
  have e5 : ¬ H.next = H4.next := by omega
  have e6 : ¬ H1.next = H4.next := by omega
  repeat' first
    | refine T_seq ?_
    | refine T_rgn ?_
    | refine T_cd ?_
    | refine T_sk ?_
    | refine T_rt ?_
    | refine T_block ?_
    | refine T_ex ?_
    | refine Kt_then ?_
    | refine Kt_block ?_
    | refine Kr_then ?_
    | refine Kr_block ?_
    | refine Kr_loop ?_
    | refine Ke_here ?_
    | refine Ke_then ?_
    | refine Ke_loop ?_
    | refine Ke_block ?_
    | refine Hid.mk ?_
    | refine T_dr (id := 13) (fun i => i = H1.next) [7] (.free 0 (.free 1 (.free 2 (.sole 3 (.sole 4 (.sole 5 (.free 6 (.sole 7 .done)))))))) mix ?_
    | refine And.intro (fun _ h1 h2 => absurd h2 h1) ?_
    | (refine bs_own (sz2 := 4) (lo := H1.next + 1) (rows := cs.map (LEl.row H.color)) (pre := [pi hp, PV.sl H.color 4 (con.map (LEl.row H.color))]) (post := []) (p := p4) under55 Tryz.sz62 Tryz.zero62 (hout4.keep (by simp) (fun i hi1 hi2 => by simp [show ¬ i = H.next by omega])) (by simp [frozen_pi]) (by simp) (by simp [*]) (by simp [*]) (by decide) ?_; rintro HF hfn hfc hfb hfm hfa; simp only [next_setBox] at hfn; have hfk : ∀ i, i ≤ H1.next → i ≠ H.next → HF.box i = H4.box i := (fun i hi e => by rw [hfb i (fun n s e' => by have := hout4.at_lt e'; omega)]; simp [e]); have hfi : HF.box H.next = some [q8.row H.color s0.size] := (by rw [hfb H.next (fun n s e' => by have := hout4.at_lt e'; omega)]; simp); have hxF : ExtO H.next H1 HF := ⟨by rw [hfn]; exact hx4.next, fun i hi e => by rw [hfk i (by omega) e]; exact hx4.box i hi e, fun i hi => by rw [hfm]; simp; exact hx4.mp i hi, by rw [hfc]; simp; exact hx4.color⟩; have hcF : HF.color = H.color := (by rw [hfc]; simp [*]))
    | (refine app_one (lo := H.next + 1) (rows := l.map (LRg.row H.color)) (hout.keep (by simp; omega) (fun i hi1 hi2 => by simp [show ¬ i = H4.next by omega]; exact hxF.box i hi2 (by omega))) (by simp; omega) under55 Tryz.sz62 Tryz.zero62 Tryz.by62 rfl rfl (by decide) (box_sb _ _ _ _) (by simp [frozen_pi]) (by have := rgS_length l; simp; omega) ?_; rintro p9 H9 hout9 hab9 hel9; have hb10 : H9.box H.next = some [q8.row H.color s0.size] := (by rw [hel9.box H.next (by simp; omega) (fun n s e => by have := hout.at_lt e; omega)]; simp [*]))
    | (refine eitherK.raw ?_; simp (maxSteps := 1000000) (disch := first | omega | assumption | (simp; done) | fail) [*, box_sb])
    | (refine app_one (sz := 4) (rows := cs.map (LEl.row H.color)) (lo := H1.next + 1) (hout4.keep (by simp) (fun i hi1 hi2 => by simp [show ¬ i = H4.next by omega, show ¬ i = H.next by omega])) (by simp; omega) under60 Tryz.sz72 Tryz.zero72 Tryz.by72 rfl rfl (by decide) (box_sb _ _ _ _) (by simp [Frozen]) (by have h1 := LEl.length_le_size cs; simp; omega) ?_; rintro p5 H5 hout5 hab5 hel5; have hb5 : H5.box H1.next = some [[pi hp, PV.sl H.color 4 (con.map (LEl.row H.color)), p4]] := (by rw [hel5.box H1.next (by simp; omega) (fun n s e => by have := hout4.at_lt e; omega)]; simp [*]); have hbi5 : H5.box H.next = some [q7.row H.color s0.size] := (by rw [hel5.box H.next (by simp; omega) (fun n s e => by have := hout4.at_lt e; omega)]; simp [*]); have hc5 : H5.color = H.color := (by rw [hel5.color]; simp [*]); have hpc5 := hout5.cells; have hpk5 := hout5.okCells; have hn5 : H4.next ≤ H5.next := (by have := hel5.next; simp at this; omega))
    | (refine callR (rHave _ H.next H.color s0.size s5 (by first | assumption | exact box_self _ _ _ | (simp [*]; done) | (simp [LRd.row, LRd.setDeep, *]; done) | fail) _) ?_; rintro _ Hz ⟨vb6, q6, rfl, hto6, hmu6, hz⟩; subst Hz)
    | (refine callR (rCoil _ H.next H.color s0.size q6 (by first | assumption | exact box_self _ _ _ | (simp [*]; done) | (simp [LRd.row, LRd.setDeep, *]; done) | fail) (hto6.good hg5)) ?_; rintro _ Hz ⟨co7, ca7, cn7, q7, rfl, hcn7, hto7, hmu7, hz⟩; subst Hz)
    | (refine callR (rMust _ H.next H.color s0.size q6 (by first | assumption | exact box_self _ _ _ | (simp [*]; done) | (simp [LRd.row, LRd.setDeep, *]; done) | fail) _) ?_; rintro _ Hz ⟨q8, rfl, hto8, hmu8, hz⟩; subst Hz)
    | refine Gs.mk (fun g => ?_) (fun g => ?_) <;> (try simp only [nm] at g) <;> try (exfalso; first | contradiction | omega)
    | refine Gr.mk (fun g => ?_) (fun g => ?_) <;> (try simp only [nm] at g) <;> try (exfalso; first | contradiction | omega)
    | (refine Run.of ?_; simp (maxSteps := 1000000) (disch := first | omega | assumption | (simp; done) | fail) [*, box_sb, frz_nil, LRd.rdLen])
  all_goals first
    | (refine Kt_loop ⟨q7.mu, ?_, cs ++ [.mk co7 ca7 cn7 []], p5, q7, rfl, ?_⟩ <;> (have h1 := hmu6 (by first | rfl | assumption); have h2 := hto7.mu; have h3 := hto6.mu) <;> (repeat' apply And.intro) <;> first | omega | (simp [*]; done) | (exact OutIs.keep (by simpa [LEl.row, LEl.rowsB] using hout5) (by simp) (fun i h1 h2 => by simp [show ¬ i = H1.next by omega])) | (exact (ExtO.of (hab5 (H1.setBox H.next [q7.row H.color s0.size]) (by simp) (by refine ExtO.to ?_ (by omega) ?_ <;> first | (simp [*]; done) | ((repeat (first | assumption | exact ExtO.refl _ _ | refine ExtO.bump ?_ | refine ExtO.setId ?_ | refine ExtO.setBox (by first | omega | (simp; omega)) ?_)); done) | fail))).setBox (Nat.le_refl _)) | (simp; omega) | (exact hto7.good (hto6.good hg5)) | (rw [LEl.nmL_append]; exact ⟨hnm5, ⟨hcn7, trivial⟩, trivial⟩) | (simp [LEl.sizeL_append, LEl.sizeL, LEl.size, LEl.sizeB]; omega) | fail)
    | (refine Kt_loop ⟨q8.mu, ?_, l ++ [⟨hp, con, cs⟩], p9, q8, rfl, ?_⟩ <;> (have h2 := hto8.mu; have h3 := hto6.mu) <;> (repeat' apply And.intro) <;> first | omega | (simp [*]; done) | (simpa [LRg.row] using hout9) | (exact hab9 H (by omega) (by refine AS.Ext.bump (AS.Ext.setBox (by omega) ?_); exact ext_ofO hext hxF)) | (have := hel9.next; simp at this; omega) | (exact hto8.good (hto6.good hg5)) | (exact rg_app hgd ⟨hok2, hnm2, hnm5⟩) | (simp [rgS_append, rgS]; omega) | fail)
    | fail
set_option maxHeartbeats 4000000
instance : Inhabited LEl := ⟨.mk 0 0 eE []⟩
theorem idx60 (c : Nat) (l : List LEl) (i : Int) (h0 : 0 ≤ i) (h1 : i < (l.length : Int)) : aIndexAddr Tryz.prog 60 (PV.sl c 4 (l.map (LEl.row c))) (pi i) = some (.rptr c (LEl.row c (nth l i))) := idx_list under60 Tryz.sz72 _ l i h0 h1
theorem idx70 (c : Nat) (l : List (List LEl)) (i : Int) (h0 : 0 ≤ i) (h1 : i < (l.length : Int)) : aIndexAddr Tryz.prog 70 (PV.sl c 1 (l.map (LEl.bRow c))) (pi i) = some (.rptr c (LEl.bRow c (nth l i))) := idx_list under70 Tryz.sz60 _ l i h0 h1
theorem nth_get {α : Type} [Inhabited α] {l : List α} {i : Nat} (h : i < l.length) : nth l (i : Int) = l[i] := nth_nat l i h
theorem take_nth {α : Type} [Inhabited α] {l : List α} {i : Nat} (h : i < l.length) : l.take (i + 1) = l.take i ++ [nth l (i : Int)] := by rw [nth_get h, List.take_succ_eq_append_getElem h]
theorem size_nth {l : List LEl} {i : Nat} (h : i < l.length) : LEl.sizeB (nth l (i : Int)).br + 1 ≤ LEl.sizeL l := by
  rw [nth_get h, ← LEl.size_eq]; exact LEl.sizeL_get h
theorem sizeB_nth {l : List (List LEl)} {i : Nat} (h : i < l.length) : LEl.sizeL (nth l (i : Int)) + 1 ≤ LEl.sizeB l := by
  rw [nth_get h]; exact LEl.sizeB_get h
theorem LEl.eta (e : LEl) : LEl.mk e.op e.pos e.name e.br = e := by cases e; rfl
theorem frozen_pi' (n : Int) : Frozen (pi n) := by simp [Frozen]
theorem xElements (n : Nat) : ∀ (H : AS) (c : Nat) (l : List LEl), LEl.sizeL l ≤ n → n ≤ 1048576 → ACalls Tryz.prog 58 [PV.sl c 4 (l.map (LEl.row c))] H fun q H' => q = PV.sl H.color 4 (l.map (LEl.row H.color)) ∧ H' = H := by
  induction n using Nat.strongRecOn with
  | _ n ih =>
  intro H c l hn hn0
  refine ACalls_intro Tryz.func58 rfl (by kernel_rfl) (by simp) fun hwf hbel => ?_
  have hll := LEl.length_le_size l
  repeat' first
    | refine T_seq ?_
    | refine T_rgn ?_
    | refine T_cd ?_
    | refine T_sk ?_
    | refine T_rt ?_
    | refine T_block ?_
    | refine T_ex ?_
    | refine Kt_then ?_
    | refine Kt_block ?_
    | refine Kr_then ?_
    | refine Kr_block ?_
    | refine Kr_loop ?_
    | refine Ke_here ?_
    | refine Ke_then ?_
    | refine Ke_loop ?_
    | refine Ke_block ?_
    | refine Hid.mk ?_
    | refine Gs.mk (fun g => ?_) (fun g => ?_) <;> (try simp only [nm] at g) <;> try (exfalso; first | contradiction | omega)
    | refine Gr.mk (fun g => ?_) (fun g => ?_) <;> (try simp only [nm] at g) <;> try (exfalso; first | contradiction | omega)
    | (refine Run.of ?_; simp (maxSteps := 1000000) (disch := first | omega | assumption | (simp; done) | fail) [*, lenNilS])
  refine T_lp (fun k F H' => ∃ (i : Nat) (p : PV), k = l.length - i ∧ F 0 = PV.sl c 4 (l.map (LEl.row c)) ∧ F 9 = PV.sl c 4 (l.map (LEl.row c)) ∧ F 10 = pi l.length ∧ F 11 = pi i ∧ F 3 = p ∧ i ≤ l.length ∧ OutIs H.next H' p 4 ((l.take i).map (LEl.row H.color)) ∧ H.Ext H') _ ⟨0, .nil, rfl, by simp, by simp, by simp, by simp, by simp, Nat.zero_le _, .nil, .refl _⟩ ?_
  rintro k F H1 ⟨i, p, rfl, g0, g9, g10, g11, g3, hi, hout, hext⟩
  have hn1 := hext.next
  have hc1 : H1.color = H.color := hext.color
  repeat' first
    | refine T_seq ?_
    | refine T_rgn ?_
    | refine T_cd ?_
    | refine T_sk ?_
    | refine T_rt ?_
    | refine T_block ?_
    | refine T_ex ?_
    | refine Kt_then ?_
    | refine Kt_block ?_
    | refine Kr_then ?_
    | refine Kr_block ?_
    | refine Kr_loop ?_
    | refine Ke_here ?_
    | refine Ke_then ?_
    | refine Ke_loop ?_
    | refine Ke_block ?_
    | refine Hid.mk ?_
    | refine Gs.mk (fun g => ?_) (fun g => ?_) <;> (try simp only [nm] at g) <;> try (exfalso; first | contradiction | omega)
    | refine Gr.mk (fun g => ?_) (fun g => ?_) <;> (try simp only [nm] at g) <;> try (exfalso; first | contradiction | omega)
    | (refine Run.of ?_; simp (maxSteps := 1000000) (disch := first | omega | assumption | (simp; done) | fail) [*, lenNilS, idx60, LEl.row_eq, wrap_nn])
  all_goals first
    | (refine Kx.mk ?_; refine owes_out (lo := H.next) (sz := 4) (rows := l.map (LEl.row H.color)) (.inr rfl) hwf rfl ?_ (Nat.le_refl _) hext (LEl.rows_below _ _ _); have hil : i = l.length := (by omega); subst hil; rw [List.take_length] at hout; exact hout)
    | skip
  have hsn := size_nth g
  have hbn := LEl.lengthB_le (nth l (i : Int)).br
  refine T_lp (fun k F H' => ∃ (j : Nat) (p4 : PV), k = (nth l (i : Int)).br.length - j ∧ F 0 = PV.sl c 4 (l.map (LEl.row c)) ∧ F 9 = PV.sl c 4 (l.map (LEl.row c)) ∧ F 10 = pi l.length ∧ F 11 = pi i ∧ F 3 = p ∧ F 5 = .ptr H1.next 1 0 0 ∧ F 16 = PV.sl c 1 ((nth l (i : Int)).br.map (LEl.bRow c)) ∧ F 17 = pi (nth l (i : Int)).br.length ∧ F 18 = pi j ∧ F 6 = p4 ∧ j ≤ (nth l (i : Int)).br.length ∧ OutIs (H1.next + 1) H' p4 1 (((nth l (i : Int)).br.take j).map (LEl.bRow H.color)) ∧ H'.box H1.next = some [[pi (nth l (i : Int)).op, pi (nth l (i : Int)).pos, ps (nth l (i : Int)).name, PV.sl c 1 ((nth l (i : Int)).br.map (LEl.bRow c))]] ∧ H1.Ext H' ∧ H1.next < H'.next) _ ⟨0, .nil, rfl, ?_⟩ ?_
  · (repeat' apply And.intro) <;> first | (simp [*]; done) | (exact .nil) | exact (by repeat (first | exact AS.Ext.refl _ | assumption | refine AS.Ext.bump ?_ | refine AS.Ext.setBox (by first | omega | (simp; omega)) ?_)) | (simp; omega) | fail
  rintro k F H4 ⟨j, p4, rfl, g0, g9, g10, g11, g3, g5, g16, g17, g18, g6, hj, hout4, hb4, hx4, hn4⟩
  have hp4c := hout4.cells
  have hp4k := hout4.okCells
  have hc4 : H4.color = H.color := by rw [hx4.color]; exact hc1
  have e6 : ¬ H1.next = H4.next := by omega
  repeat' first
    | refine T_seq ?_
    | refine T_rgn ?_
    | refine T_cd ?_
    | refine T_sk ?_
    | refine T_rt ?_
    | refine T_block ?_
    | refine T_ex ?_
    | refine Kt_then ?_
    | refine Kt_block ?_
    | refine Kr_then ?_
    | refine Kr_block ?_
    | refine Kr_loop ?_
    | refine Ke_here ?_
    | refine Ke_then ?_
    | refine Ke_loop ?_
    | refine Ke_block ?_
    | refine Hid.mk ?_
    | (refine bs_own (sz2 := 1) (lo := H1.next + 1) (rows := ((nth l (i : Int)).br.take j).map (LEl.bRow H.color)) (pre := [pi (nth l (i : Int)).op, pi (nth l (i : Int)).pos, ps (nth l (i : Int)).name]) (post := []) (p := p4) under60 Tryz.sz72 Tryz.zero72 (hout4.keep (by simp) (fun i hi1 hi2 => by simp [show ¬ i = H1.next by omega])) (by simp [Frozen]) (by simp) (by simp [*]) (by simp [*]) (by decide) ?_; rintro HF hfn hfc hfb hfm hfa; simp only [next_setBox] at hfn; have hxF : H1.Ext HF := ⟨by rw [hfn]; exact hx4.next, fun i hi => by rw [hfb i (fun n s e' => by have := hout4.at_lt e'; omega)]; simp [show ¬ i = H1.next by omega]; exact hx4.box i hi, fun i hi => by rw [hfm]; simp; exact hx4.mp i hi, by rw [hfc]; simp; exact hx4.color⟩; have hcF : HF.color = H.color := (by rw [hfc]; simp [*]))
    | (refine app_one (lo := H.next) (rows := (l.take i).map (LEl.row H.color)) (hout.keep (by simp; omega) (fun i hi1 hi2 => by simp [show ¬ i = H4.next by omega]; exact hxF.box i hi2)) (by simp; omega) under60 Tryz.sz72 Tryz.zero72 Tryz.by72 rfl rfl (by decide) (box_sb _ _ _ _) (by simp [frozen_pi']) (by simp [List.length_take]; omega) ?_; rintro p9 H9 hout9 hab9 hel9)
    | (refine eitherK.raw ?_; simp (maxSteps := 1000000) (disch := first | omega | assumption | (simp; done) | fail) [*, box_sb])
    | (refine app_one (sz := 1) (rows := ((nth l (i : Int)).br.take j).map (LEl.bRow H.color)) (lo := H1.next + 1) (hout4.keep (by simp) (fun i hi1 hi2 => by simp [show ¬ i = H4.next by omega])) (by simp; omega) under70 Tryz.sz60 Tryz.zero60 Tryz.by60 rfl rfl (by decide) (box_sb _ _ _ _) (by simp) (by simp [List.length_take]; omega) ?_; rintro p5 H5 hout5 hab5 hel5; have hb5 : H5.box H1.next = some [[pi (nth l (i : Int)).op, pi (nth l (i : Int)).pos, ps (nth l (i : Int)).name, PV.sl c 1 ((nth l (i : Int)).br.map (LEl.bRow c))]] := (by rw [hel5.box H1.next (by simp; omega) (fun n s e => by have := hout4.at_lt e; omega)]; simp [*]))
    | (refine callR (ih _ (by have := sizeB_nth (by assumption); omega) _ c (nth (nth l (i : Int)).br (j : Int)) (Nat.le_refl _) (by have := sizeB_nth (by assumption); omega)) ?_; rintro _ Hz ⟨rfl, hz⟩; subst Hz)
    | refine Gs.mk (fun g => ?_) (fun g => ?_) <;> (try simp only [nm] at g) <;> try (exfalso; first | contradiction | omega)
    | refine Gr.mk (fun g => ?_) (fun g => ?_) <;> (try simp only [nm] at g) <;> try (exfalso; first | contradiction | omega)
    | (refine Run.of ?_; simp (maxSteps := 1000000) (disch := first | omega | assumption | (simp; done) | fail) [*, lenNilS, idx70, LEl.bRow, box_sb, wrap_nn, wrap_i64])
  all_goals first
    | (refine Kt_loop ⟨_, ?_, j + 1, p5, rfl, ?_⟩ <;> (repeat' apply And.intro) <;> first | omega | (simp [*]; done) | (rw [take_nth (by assumption)]; simpa [LEl.bRow] using hout5) | (exact hab5 H1 (by omega) (by repeat (first | exact AS.Ext.refl _ | assumption | refine AS.Ext.bump ?_ | refine AS.Ext.setBox (by first | omega | (simp; omega)) ?_))) | (have := hel5.next; simp at this; omega) | fail)
    | (refine Kt_loop ⟨_, ?_, i + 1, p9, rfl, ?_⟩ <;> (repeat' apply And.intro) <;> first | omega | (simp [*]; done) | (rw [take_nth (by assumption)]; have htk : List.take j ((nth l (i : Int)).br.map (LEl.bRow H.color)) = (nth l (i : Int)).br.map (LEl.bRow H.color) := (List.take_of_length_le (by simp; omega)); rw [htk] at hout9; simpa [LEl.row_eq] using hout9) | (exact hab9 H (Nat.le_refl _) (by refine AS.Ext.bump (AS.Ext.setBox (by omega) ?_); exact hext.trans hxF)) | fail)
    | fail
set_option maxHeartbeats 4000000
instance : Inhabited LRg := ⟨⟨0, [], []⟩⟩
theorem idx55 (c : Nat) (l : List LRg) (i : Int) (h0 : 0 ≤ i) (h1 : i < (l.length : Int)) : aIndexAddr Tryz.prog 55 (PV.sl c 3 (l.map (LRg.row c))) (pi i) = some (.rptr c (LRg.row c (nth l i))) := idx_list under55 Tryz.sz62 _ l i h0 h1
theorem rgS_nth {l : List LRg} {i : Nat} (h : i < l.length) : LEl.sizeL (nth l (i : Int)).con + LEl.sizeL (nth l (i : Int)).coils + 1 ≤ rgS l := by
  rw [nth_get h]
  induction l generalizing i with
  | nil => simp at h
  | cons x xs ih => cases i with
    | zero => simp [rgS]; omega
    | succ i => simp at h; have := ih h; simp [rgS]; omega
theorem LRg.row_eq (c : Nat) (g : LRg) : g.row c = [pi g.pos, PV.sl c 4 (g.con.map (LEl.row c)), PV.sl c 4 (g.coils.map (LEl.row c))] := rfl
theorem xRungs (H : AS) (c : Nat) (l : List LRg) (hl : rgS l ≤ 1048576) : ACalls Tryz.prog 18 [PV.sl c 3 (l.map (LRg.row c))] H fun q H' => q = PV.sl H.color 3 (l.map (LRg.row H.color)) ∧ H' = H := by
  refine ACalls_intro Tryz.func18 rfl (by kernel_rfl) (by simp) fun hwf hbel => ?_
  have hll := rgS_length l
  repeat' first
    | refine T_seq ?_
    | refine T_rgn ?_
    | refine T_cd ?_
    | refine T_sk ?_
    | refine T_rt ?_
    | refine T_block ?_
    | refine T_ex ?_
    | refine Kt_then ?_
    | refine Kt_block ?_
    | refine Kr_then ?_
    | refine Kr_block ?_
    | refine Kr_loop ?_
    | refine Ke_here ?_
    | refine Ke_then ?_
    | refine Ke_loop ?_
    | refine Ke_block ?_
    | refine Hid.mk ?_
    | refine Gs.mk (fun g => ?_) (fun g => ?_) <;> (try simp only [nm] at g) <;> try (exfalso; first | contradiction | omega)
    | refine Gr.mk (fun g => ?_) (fun g => ?_) <;> (try simp only [nm] at g) <;> try (exfalso; first | contradiction | omega)
    | (refine Run.of ?_; simp (maxSteps := 1000000) (disch := first | omega | assumption | (simp; done) | fail) [*, lenNilS])
  refine T_lp (fun k F H' => ∃ (i : Nat) (p : PV), k = l.length - i ∧ F 6 = PV.sl c 3 (l.map (LRg.row c)) ∧ F 7 = pi l.length ∧ F 8 = pi i ∧ F 3 = p ∧ i ≤ l.length ∧ OutIs H.next H' p 3 ((l.take i).map (LRg.row H.color)) ∧ H.Ext H') _ ⟨0, .nil, rfl, by simp, by simp, by simp, by simp, Nat.zero_le _, .nil, .refl _⟩ ?_
  rintro k F H1 ⟨i, p, rfl, g6, g7, g8, g3, hi, hout, hext⟩
  have hn1 := hext.next
  have hc1 : H1.color = H.color := hext.color
  repeat' first
    | refine T_seq ?_
    | refine T_rgn ?_
    | refine T_cd ?_
    | refine T_sk ?_
    | refine T_rt ?_
    | refine T_block ?_
    | refine T_ex ?_
    | refine Kt_then ?_
    | refine Kt_block ?_
    | refine Kr_then ?_
    | refine Kr_block ?_
    | refine Kr_loop ?_
    | refine Ke_here ?_
    | refine Ke_then ?_
    | refine Ke_loop ?_
    | refine Ke_block ?_
    | refine Hid.mk ?_
    | refine T_dr (id := 5) (fun i => i = H1.next) [] (.free 0 (.free 1 (.free 2 (.free 3 (.free 4 (.free 6 (.free 7 (.sole 5 (.sole 8 (.free 9 (.sole 10 (.sole 11 (.free 12 .done))))))))))))) mix ?_
    | refine And.intro (fun _ h1 h2 => absurd h2 h1) ?_
    | (refine eitherK.raw ?_; simp (maxSteps := 1000000) (disch := first | omega | assumption | (simp; done) | fail) [*, box_sb])
    | (refine app_one (lo := H.next) (rows := (l.take i).map (LRg.row H.color)) (hout.keep (by simp; omega) (fun i hi1 hi2 => by simp [show ¬ i = H1.next by omega, show ¬ i = H1.next + 1 by omega])) (by simp; omega) under55 Tryz.sz62 Tryz.zero62 Tryz.by62 rfl rfl (by decide) (box_sb _ _ _ _) (by simp [frozen_pi]) (by simp [List.length_take]; omega) ?_; rintro p9 H9 hout9 hab9 hel9; have hb9 : H9.box H1.next = some [[pi (nth l (i : Int)).pos, PV.sl c 4 ((nth l (i : Int)).con.map (LEl.row c)), PV.sl c 4 ((nth l (i : Int)).coils.map (LEl.row c))]] := (by rw [hel9.box H1.next (by simp; omega) (fun n s e => by have := hout.at_lt e; omega)]; simp [*]); have hc9 : H9.color = H.color := (by rw [hel9.color]; simp [*]))
    | (refine callR (xElements _ _ c (nth l (i : Int)).con (Nat.le_refl _) (by have := rgS_nth (by assumption); omega)) ?_; rintro _ Hz ⟨rfl, hz⟩; subst Hz)
    | (refine callR (xElements _ _ c (nth l (i : Int)).coils (Nat.le_refl _) (by have := rgS_nth (by assumption); omega)) ?_; rintro _ Hz ⟨rfl, hz⟩; subst Hz)
    | refine Gs.mk (fun g => ?_) (fun g => ?_) <;> (try simp only [nm] at g) <;> try (exfalso; first | contradiction | omega)
    | refine Gr.mk (fun g => ?_) (fun g => ?_) <;> (try simp only [nm] at g) <;> try (exfalso; first | contradiction | omega)
    | (refine Run.of ?_; simp (maxSteps := 1000000) (disch := first | omega | assumption | (simp; done) | fail) [*, lenNilS, idx55, LRg.row_eq, box_sb, wrap_nn, wrap_i64])
  all_goals first
    | (refine Kx.mk ?_; refine owes_out (lo := H.next) (sz := 3) (rows := l.map (LRg.row H.color)) (.inr rfl) hwf rfl ?_ (Nat.le_refl _) hext (rg_below _ _ _); have hil : i = l.length := (by omega); subst hil; rw [List.take_length] at hout; exact hout)
    | (refine Kt_loop ⟨_, ?_, i + 1, p9, rfl, ?_⟩ <;> (repeat' apply And.intro) <;> first | omega | (simp [*]; done) | (rw [take_nth (by assumption)]; simpa [LRg.row_eq] using hout9) | (exact hab9 H (Nat.le_refl _) (by repeat (first | exact AS.Ext.refl _ | assumption | refine AS.Ext.bump ?_ | refine AS.Ext.setBox (by first | omega | (simp; omega)) ?_))) | fail)
    | fail
end
end Go.Abs
namespace Go.Proofs
open Go.Shelf
def Tryz.laysM171_ren : Go.Shelf.Ren := ⟨fun | 171 => 32 | 243 => 79 | 246 => 113 | 283 => 131 | 284 => 132 | 285 => 133 | 286 => 134 | 129 => 147 | 317 => 146 | 318 => 148 | 319 => 149 | 320 => 150 | 337 => 161 | 338 => 162 | n => n, fun | 3 => 3 | 9 => 9 | 2 => 2 | 4 => 4 | 171 => 202 | 0 => 0 | 53 => 117 | 37 => 200 | 5 => 5 | 173 => 205 | 212 => 219 | 51 => 220 | 20 => 20 | 213 => 221 | 46 => 39 | 232 => 238 | 233 => 239 | n => n, fun | 17 => 0 | 18 => 3 | 19 => 4 | n => n⟩
theorem Tryz.laysM171 : Go.Proofs.LaysM.n171 Tryz.prog Tryz.laysM171_ren := {
  mixed := by kernel_rfl
  f129 := Tryz.func147.trans (congrArg some (by kernel_rfl))
  f171 := Tryz.func32.trans (congrArg some (by kernel_rfl))
  f243 := Tryz.func79.trans (congrArg some (by kernel_rfl))
  f246 := Tryz.func113.trans (congrArg some (by kernel_rfl))
  f283 := Tryz.func131.trans (congrArg some (by kernel_rfl))
  f284 := Tryz.func132.trans (congrArg some (by kernel_rfl))
  f285 := Tryz.func133.trans (congrArg some (by kernel_rfl))
  f286 := Tryz.func134.trans (congrArg some (by kernel_rfl))
  f317 := Tryz.func146.trans (congrArg some (by kernel_rfl))
  f318 := Tryz.func148.trans (congrArg some (by kernel_rfl))
  f319 := Tryz.func149.trans (congrArg some (by kernel_rfl))
  f320 := Tryz.func150.trans (congrArg some (by kernel_rfl))
  f337 := Tryz.func161.trans (congrArg some (by kernel_rfl))
  f338 := Tryz.func162.trans (congrArg some (by kernel_rfl))
  t0 := Tryz.underlying0
  a0 := Tryz.isAgg0
  z0 := Tryz.sizeOf0
  v0 := Tryz.zeroValue0
  t2 := Tryz.underlying2
  a2 := Tryz.isAgg2
  z2 := Tryz.sizeOf2
  v2 := Tryz.zeroValue2
  t3 := Tryz.underlying3
  a3 := Tryz.isAgg3
  z3 := Tryz.sizeOf3
  v3 := Tryz.zeroValue3
  t4 := Tryz.underlying4
  a4 := Tryz.isAgg4
  z4 := Tryz.sizeOf4
  v4 := Tryz.zeroValue4
  t5 := Tryz.underlying5
  a5 := Tryz.isAgg5
  z5 := Tryz.sizeOf5
  v5 := Tryz.zeroValue5
  t9 := Tryz.underlying9
  a9 := Tryz.isAgg9
  z9 := Tryz.sizeOf9
  v9 := Tryz.zeroValue9
  t20 := Tryz.underlying20
  a20 := Tryz.isAgg20
  z20 := Tryz.sizeOf20
  v20 := Tryz.zeroValue20
  t37 := Tryz.underlying200
  a37 := Tryz.isAgg200
  z37 := Tryz.sizeOf200
  v37 := Tryz.zeroValue200
  t46 := Tryz.underlying39
  a46 := Tryz.isAgg39
  z46 := Tryz.sizeOf39
  v46 := Tryz.zeroValue39
  t51 := Tryz.underlying220
  a51 := Tryz.isAgg220
  z51 := Tryz.sizeOf220
  v51 := Tryz.zeroValue220
  t53 := Tryz.underlying117
  a53 := Tryz.isAgg117
  z53 := Tryz.sizeOf117
  v53 := Tryz.zeroValue117
  t171 := Tryz.underlying202
  a171 := Tryz.isAgg202
  z171 := Tryz.sizeOf202
  v171 := Tryz.zeroValue202
  t173 := Tryz.underlying205
  a173 := Tryz.isAgg205
  z173 := Tryz.sizeOf205
  v173 := Tryz.zeroValue205
  t212 := Tryz.underlying219
  a212 := Tryz.isAgg219
  z212 := Tryz.sizeOf219
  v212 := Tryz.zeroValue219
  t213 := Tryz.underlying221
  a213 := Tryz.isAgg221
  z213 := Tryz.sizeOf221
  t232 := Tryz.underlying238
  a232 := Tryz.isAgg238
  z232 := Tryz.sizeOf238
  v232 := Tryz.zeroValue238
  t233 := Tryz.underlying239
  a233 := Tryz.isAgg239
  z233 := Tryz.sizeOf239
  v233 := Tryz.zeroValue239
  g17 := by kernel_rfl
  g18 := by kernel_rfl
  g19 := by kernel_rfl
  i0 := by kernel_rfl
  i2 := by kernel_rfl
  i3 := by kernel_rfl
  i4 := by kernel_rfl
  i5 := by kernel_rfl
  i9 := by kernel_rfl
  i20 := by kernel_rfl
  i37 := by kernel_rfl
  i46 := by kernel_rfl
  i51 := by kernel_rfl
  i53 := by kernel_rfl
  i171 := by kernel_rfl
  i173 := by kernel_rfl
  i212 := by kernel_rfl
  i232 := by kernel_rfl
  i233 := by kernel_rfl
  m17 := by kernel_rfl
  m18 := by kernel_rfl
  m19 := by kernel_rfl }
open Go.RowKit Go.Sort Go.Lib in
theorem Tryz.strconv_Itoa (n : Int) (h0 : -9223372036854775808 ≤ n) (h1 : n ≤ 9223372036854775807) (w : World) (htab : Lib.TabIs Tryz.prog w "internal/strconv.uint64pow10" .u64 Lib.pow10Tab) :
    Calls Tryz.prog 32 #[.int .i64 n] w fun e w' => e = .returned (.string ⟨(Lib.itoa n).toArray⟩) ∧ ∃ k os, w' = grow (w.drewN k) os := Any.strconv_Itoa Tryz.laysM171 n h0 h1 w htab
def Tryz.lays145_ren : Go.Shelf.Ren := ⟨fun | 145 => 91 | 220 => 119 | 219 => 136 | 217 => 151 | 225 => 152 | 224 => 153 | 267 => 154 | 266 => 163 | 314 => 164 | n => n, fun | 9 => 9 | 4 => 4 | 59 => 168 | 3 => 3 | 5 => 5 | 46 => 39 | 146 => 229 | 51 => 220 | n => n, fun | 1 => 1 | n => n⟩
theorem Tryz.lays145 : Go.Proofs.Lays.n145 Tryz.prog Tryz.lays145_ren := {
  mixed := by kernel_rfl
  f145 := Tryz.func91.trans (congrArg some (by kernel_rfl))
  f217 := Tryz.func151.trans (congrArg some (by kernel_rfl))
  f219 := Tryz.func136.trans (congrArg some (by kernel_rfl))
  f220 := Tryz.func119.trans (congrArg some (by kernel_rfl))
  f224 := Tryz.func153.trans (congrArg some (by kernel_rfl))
  f225 := Tryz.func152.trans (congrArg some (by kernel_rfl))
  f266 := Tryz.func163.trans (congrArg some (by kernel_rfl))
  f267 := Tryz.func154.trans (congrArg some (by kernel_rfl))
  f314 := Tryz.func164.trans (congrArg some (by kernel_rfl))
  t3 := Tryz.underlying3
  a3 := Tryz.isAgg3
  z3 := Tryz.sizeOf3
  v3 := Tryz.zeroValue3
  t4 := Tryz.underlying4
  a4 := Tryz.isAgg4
  z4 := Tryz.sizeOf4
  v4 := Tryz.zeroValue4
  t5 := Tryz.underlying5
  a5 := Tryz.isAgg5
  z5 := Tryz.sizeOf5
  v5 := Tryz.zeroValue5
  t9 := Tryz.underlying9
  a9 := Tryz.isAgg9
  z9 := Tryz.sizeOf9
  v9 := Tryz.zeroValue9
  t46 := Tryz.underlying39
  a46 := Tryz.isAgg39
  z46 := Tryz.sizeOf39
  v46 := Tryz.zeroValue39
  t51 := Tryz.underlying220
  a51 := Tryz.isAgg220
  z51 := Tryz.sizeOf220
  v51 := Tryz.zeroValue220
  t59 := Tryz.underlying168
  a59 := Tryz.isAgg168
  z59 := Tryz.sizeOf168
  v59 := Tryz.zeroValue168
  t146 := Tryz.underlying229
  a146 := Tryz.isAgg229
  z146 := Tryz.sizeOf229
  v146 := Tryz.zeroValue229
  g1 := by kernel_rfl }
open Go.RowKit Go.Lib in
theorem Tryz.strings_Cut (s sep : ByteArray) (m : Int) (w : World) (hs : s.size < 4294967281) (hm : w.cell? ⟨1, 0, none⟩ = some (.int .i64 m)) :
    Calls Tryz.prog 91 #[.string s, .string sep] w fun e w' => e = .returned (.tuple #[.string ⟨(Lib.cut s.data.toList sep.data.toList).1.toArray⟩, .string ⟨(Lib.cut s.data.toList sep.data.toList).2.1.toArray⟩, .bool (Lib.cut s.data.toList sep.data.toList).2.2]) ∧ ∃ n, w' = w.drewN n := Any.strings_Cut Tryz.lays145 s sep m w hs hm
end Go.Proofs
namespace Go.Abs
open Go.Proofs
set_option autoImplicit false
set_option linter.all false
set_option maxRecDepth 100000
set_option maxHeartbeats 40000000
/-- What was in memory is in memory; the streams are as they were. -/
structure Kept (w w' : World) : Prop where
  heap : ∀ (b : Nat) (o : Obj), w.heap[b]? = some o → w'.heap[b]? = some o
  os : w'.os = w.os
  out : w'.output = w.output
  tape : w'.tape = w.tape
theorem Rel.kept {G : Gh} {H : AS} {w w' : World} (h : Rel G H w) (k : Kept w w') : Rel G H w' where
  exok := h.exok
  next := h.next
  ro := fun b c o e => k.heap _ _ (h.ro b c o e)
  box := fun id rows e => by
    obtain ⟨b, sz, cap, vs, elem, fz, h1, h2, h3⟩ := h.box id rows e
    exact ⟨b, sz, cap, vs, elem, fz, h1, k.heap _ _ h2, h3⟩
  inj := h.inj
  mp := fun id es e => by
    obtain ⟨b, ents, clock, h1, h2, h3⟩ := h.mp id es e
    exact ⟨b, ents, clock, h1, k.heap _ _ h2, h3⟩
  minj := h.minj
  vmax := h.vmax
  dom := h.dom
  mdom := h.mdom
  os := k.os.trans h.os
  out := k.out.trans h.out
  tape := k.tape.trans h.tape
  base := h.base
theorem Kept.below {w w' : World} (h : RowKit.Below w.heap.size w w') : Kept w w' :=
  ⟨fun b o e => by rw [h.block b (by rw [Array.getElem?_eq_some_iff] at e; exact e.1)]; exact e, h.os, h.output, h.tape⟩
theorem Kept.refl (w : World) : Kept w w := ⟨fun _ _ e => e, rfl, rfl, rfl⟩
theorem Kept.grow (w : World) (n : Nat) (os : Array Obj) : Kept w (Sort.grow (w.drewN n) os) :=
  ⟨fun b o e => by
    show (w.heap ++ os)[b]? = _
    rw [Array.getElem?_append_left (by rw [Array.getElem?_eq_some_iff] at e; exact e.1)]; exact e, rfl, rfl, rfl⟩
theorem ACalls.of_kept {P : Program} {H : AS} {f : FuncId} {fn : Func} {vs : List Value} {q : PV} (hf : P.funcs[f]? = some fn) (hb : fn.body.isSome = true) (hname : (fn.name == "runtime.NumGoroutine") = false)
    (h : ∀ (G : Gh) (w : World), Rel G H w → Calls P f vs.toArray w fun e w' => ∃ v, e = .returned v ∧ Rep G q v ∧ Kept w w') : ACalls P f (vs.map .val) H fun r H' => r = q ∧ H' = H := by
  refine .inl ⟨⟨fn, hf, hb, hname⟩, fun G w us hr hall => ?_⟩
  have e : us = vs := by
    have key : ∀ (vs us : List Value), RepAll G (vs.map .val) us → us = vs := by
      intro vs
      induction vs with
      | nil => intro us h; cases us with
        | nil => rfl
        | cons => exact h.elim
      | cons v vs ih => intro us h; cases us with
        | nil => exact h.elim
        | cons u us => rw [rep_val h.1, ih us h.2]
    exact key vs us hall
  subst e
  refine (h G w hr).mono ?_
  rintro e w' ⟨v, rfl, hv, hk⟩
  exact ⟨v, G, q, H, rfl, .refl G, hr.kept hk, hv, rfl, rfl⟩
theorem Rel.heap0 {G : Gh} {H : AS} {w : World} (h : Rel G H w) {b : Nat} {o : Obj} (e : G.w0.heap[b]? = some o) : w.heap[b]? = some o := by
  obtain ⟨c, hc⟩ := h.base.2 b o e
  exact h.ro _ _ _ hc
theorem Rel.tab {G : Gh} {H : AS} {w : World} (h : Rel G H w) : Lib.TabIs Tryz.prog w "internal/strconv.uint64pow10" .u64 Lib.pow10Tab := by
  obtain ⟨t, fz, e⟩ := h.base.1.1
  have hg : Tryz.prog.globalNamed "internal/strconv.uint64pow10" = some 0 := by kernel_rfl
  unfold Lib.TabIs World.var?
  rw [hg]
  simp [h.heap0 e]
theorem Kept.drewN (w : World) (n : Nat) : Kept w (w.drewN n) := ⟨fun _ _ e => e, rfl, rfl, rfl⟩
theorem Rel.cut {G : Gh} {H : AS} {w : World} (h : Rel G H w) : ∃ m, w.cell? ⟨1, 0, none⟩ = some (.int .i64 m) := by
  obtain ⟨m, cs, t, fz, h1, h2⟩ := h.base.1.2
  exact ⟨m, by simp [World.cell?, h.heap0 h1, h2]⟩
theorem itoaIs (H : AS) (n : Nat) (h1 : n ≤ 9223372036854775807) : ACalls Tryz.prog 32 [pi n] H fun q H' => q = ps (hid [] n) ∧ H' = H :=
  ACalls.of_kept (vs := [.int .i64 n]) Tryz.func32 (by kernel_rfl) (by kernel_rfl) fun G w hr => by
    refine (Tryz.strconv_Itoa n (by omega) (by omega) w hr.tab).mono ?_
    rintro x w' ⟨rfl, k, os, rfl⟩
    exact ⟨_, rfl, .val _, .grow _ _ _⟩
theorem cutIs (H : AS) (s : ByteArray) (hs : s.size ≤ 262145) : ACalls Tryz.prog 91 [ps s, ps ⟨#[46]⟩] H fun q H' => q = .tuple [ps ⟨(cut46 s).1.toArray⟩, ps ⟨(cut46 s).2.1.toArray⟩, pb (cut46 s).2.2] ∧ H' = H :=
  ACalls.of_kept (vs := [.string s, .string ⟨#[46]⟩]) Tryz.func91 (by kernel_rfl) (by kernel_rfl) fun G w hr => by
    obtain ⟨m, hm⟩ := hr.cut
    refine (Tryz.strings_Cut s ⟨#[46]⟩ m w (by omega) hm).mono ?_
    rintro x w' ⟨rfl, n, rfl⟩
    refine ⟨_, rfl, ?_, .drewN _ _⟩
    exact .tuple rfl (fun j p u hp hu => by
      match j with
      | 0 => simp at hp hu; subst hp; subst hu; exact .val _
      | 1 => simp at hp hu; subst hp; subst hu; exact .val _
      | 2 => simp at hp hu; subst hp; subst hu; exact .val _
      | j + 3 => simp at hp)
theorem hid_app (p : List UInt8) (n : Nat) : (⟨p.toArray⟩ : ByteArray) ++ hid [] n = hid p n := by
  unfold hid
  apply ByteArray.ext
  simp [ByteArray.data_append]
theorem hid_size (p : List UInt8) (n : Nat) (h : n ≤ 9223372036854775807) : (hid p n).size ≤ p.length + 21 := by
  have := Lib.itoa_length_le n (by omega) (by omega)
  unfold hid
  rw [ByteArray.size]; simp; omega
end Go.Abs
namespace Go.Abs
open Go.Proofs
set_option autoImplicit false
set_option linter.all false
set_option maxRecDepth 100000
set_option maxHeartbeats 4000000
attribute [local simp ↓] wanted_at hbind_some
attribute [local simp] Gs_true Gs_false gcond_Gr Gr_true Gr_false abox frame0 int_beq int_bne aload astore partOf Keeps Same splice aUn aFieldAddr aField aBin aBinV aConvert aExtract aLen aBuild aBuild.go aalloc AS.Ext.refl AS.Ext.bump AS.Ext.setBox
theorem owes_fz {P : Program} {H H1 : AS} {fn : Func} {R : PV → AS → Prop} {l : List ResultVar} {F' : AF} {H' : AS} {e : Exit} (qs : List PV) (he : e = .normal ∨ e = .ret) (hwf : WF H1) (hn : H.next ≤ H1.next) (hl : fn.results.toList = l)
    (h : resP P F' H' l fun rs => ∃ H2, frzVs H' rs = (qs, H2) ∧ H1.Ext H2) (hb : ∀ p ∈ qs, Below H1.next p) (hR : R (packed qs) H1) : Owes P fn H R e F' H' := by
  obtain ⟨rs, h1, H2, h2, h3⟩ := resP_res h
  refine ⟨he, ?_⟩
  rw [hl, h1]
  refine ⟨H1, hn, ?_, hwf, ?_, ?_⟩
  · rw [h2]; exact h3
  · rw [h2]; exact hb
  · rw [h2]; exact hR
theorem frz_msl {H : AS} {id n sz : Nat} {rows : List (List PV)} (h : H.box id = some rows) (hn : rows.length = n) : frz H (.msl id n sz) = (PV.sl H.color sz rows, H.kill id) := by simp [frz, h, hn]
theorem below_agg1 {n : Nat} {cs : List PV} (h : ∀ p ∈ cs, Below n p) : ∀ p ∈ [PV.agg cs], Below n p := by
  intro p hp; rw [List.mem_singleton] at hp; subst hp; exact .agg h
theorem names_below (n c : Nat) (l : List ByteArray) : Below n (PV.sl c 1 (l.map nRow)) := by
  rw [below_sl]; intro r hr p hp
  obtain ⟨b, _, rfl⟩ := List.mem_map.1 hr
  simp [nRow] at hp; subst hp; exact .val _
namespace LEx
mutual
theorem row_below (n c : Nat) : ∀ e : LEx, ∀ p ∈ e.row c, Below n p
  | mk o a nm f vk vb vt k ns => by
    have h := rowsK_below n c k
    rw [row]
    intro p hp
    simp only [List.mem_cons, List.not_mem_nil, or_false] at hp
    rcases hp with rfl | rfl | rfl | rfl | rfl | rfl | rfl | rfl | rfl | rfl | rfl | rfl | rfl | rfl
    all_goals first | exact .val _ | (rw [below_sl]; exact h) | exact names_below _ _ _
theorem rowsK_below (n c : Nat) : ∀ l : List LEx, ∀ r ∈ rowsK c l, ∀ p ∈ r, Below n p
  | [] => by simp [rowsK]
  | e :: es => by
    have h1 := row_below n c e
    have h2 := rowsK_below n c es
    rw [rowsK]
    intro r hr p hp
    rcases List.mem_cons.1 hr with rfl | hr
    · exact h1 p hp
    · exact h2 r hr p hp
end
theorem rows_below (n c : Nat) (l : List LEx) : ∀ r ∈ l.map (row c), ∀ p ∈ r, Below n p := by rw [← rowsK_eq]; exact rowsK_below n c l
end LEx
namespace LSt
mutual
theorem row_below (n c : Nat) : ∀ e : LSt, ∀ p ∈ e.row c, Below n p
  | mk o a nm x ns b => by
    have h := rowsB_below n c b
    rw [row]
    intro p hp
    simp only [List.mem_cons, List.not_mem_nil, or_false] at hp
    rcases hp with rfl | rfl | rfl | rfl | rfl | rfl | rfl | rfl | rfl | rfl | rfl | rfl | rfl | rfl
    all_goals first | exact .val _ | (rw [below_sl]; exact h) | exact names_below _ _ _ | (rw [below_sl]; exact LEx.rows_below _ _ _) | (simp; done)
theorem rowsB_below (n c : Nat) : ∀ l : List LSt, ∀ r ∈ rowsB c l, ∀ p ∈ r, Below n p
  | [] => by simp [rowsB]
  | e :: es => by
    have h1 := row_below n c e
    have h2 := rowsB_below n c es
    rw [rowsB]
    intro r hr p hp
    rcases List.mem_cons.1 hr with rfl | hr
    · exact h1 p hp
    · exact h2 r hr p hp
end
theorem rows_below (n c : Nat) (l : List LSt) : ∀ r ∈ l.map (row c), ∀ p ∈ r, Below n p := by rw [← rowsB_eq]; exact rowsB_below n c l
end LSt
@[simp] theorem frozen_k8 (n : Int) : Frozen (k8 n) := by simp [Frozen]
@[simp] theorem frozen_k64 (n : Int) : Frozen (k64 n) := by simp [Frozen]
theorem xNot_ (H : AS) (c : Nat) (x : LEx) (hc : c = H.color) : ACalls Tryz.prog 53 [.agg (x.row c)] H fun q H' => q = .agg ((xNot x).row H.color) ∧ H' = H := by
  obtain ⟨xo, xa, xn, xf, xk, xb, xt, xs, xm⟩ := x
  simp only [LEx.row_mk]
  subst hc
  all_goals (refine ACalls_intro Tryz.func53 rfl (by kernel_rfl) (by simp) fun hwf hbel => ?_)
  all_goals (
    repeat' first
      | refine T_seq ?_
      | refine T_rgn ?_
      | refine T_cd ?_
      | refine T_sk ?_
      | refine T_rt ?_
      | refine T_block ?_
      | refine T_ex ?_
      | refine Kt_then ?_
      | refine Kt_block ?_
      | refine Kr_then ?_
      | refine Kr_block ?_
      | refine Ke_here ?_
      | refine Ke_then ?_
      | refine Hid.mk ?_
      | (refine eitherK.raw ?_; simp (maxSteps := 1000000) (disch := first | omega | assumption | (simp; done) | fail) [*, box_sb])
      | refine Gs.mk (fun g => ?_) (fun g => ?_) <;> (try simp only [nm] at g) <;> try (exfalso; first | contradiction | omega)
      | refine Gr.mk (fun g => ?_) (fun g => ?_) <;> (try simp only [nm] at g) <;> try (exfalso; first | contradiction | omega)
      | (refine Run.of ?_; simp (maxSteps := 1000000) (disch := first | omega | assumption | (simp; done) | fail) [*]))
  all_goals ((first | refine Kx.mk ?_ | refine Kt.mk ?_); refine owes_fz (H1 := H) [_] (l := [.cell 2 121]) (by first | exact .inr rfl | exact .inl rfl) hwf (Nat.le_refl _) rfl ?_ ?_ ⟨rfl, rfl⟩ <;> first | (exact below_agg1 (LEx.row_below _ _ _)) | (exact below_agg1 (LSt.row_below _ _ _)) | (simp (maxDischargeDepth := 20) [resP, packed, aload, partOf, frzVs, frzV, frzL, frz_nil, frz_msl, frz, LEx.row_mk, LSt.row_mk, xNot, xTwo, xTru, xNam, sSet, sIf, LEx.at', *]; done) | (simp (maxDischargeDepth := 20) [resP, packed, aload, partOf, frzVs, frzV, frzL, frz_nil, frz_msl, frz, LEx.row_mk, LSt.row_mk, xNot, xTwo, xTru, xNam, sSet, sIf, LEx.at', *]; first | (exact (by repeat (first | exact AS.Ext.refl _ | assumption | refine AS.Ext.bump ?_ | refine AS.Ext.kill (by first | omega | (simp; omega) | simp) ?_ | refine AS.Ext.setBox (by first | omega | (simp; omega)) ?_)); done) | (refine ⟨?_, (by repeat (first | exact AS.Ext.refl _ | assumption | refine AS.Ext.bump ?_ | refine AS.Ext.setBox (by first | omega | (simp; omega)) ?_))⟩; done)) | fail)
theorem xBoth_ (H : AS) (op a : Int) (c : Nat) (x y : LEx) (hc : c = H.color) : ACalls Tryz.prog 52 [pi op, pi a, .agg (x.row c), .agg (y.row c)] H fun q H' => q = .agg ((xTwo op a x y).row H.color) ∧ H' = H := by
  obtain ⟨xo, xa, xn, xf, xk, xb, xt, xs, xm⟩ := x
  simp only [LEx.row_mk]
  obtain ⟨yo, ya, yn, yf, yk, yb, yt, ys, ym⟩ := y
  simp only [LEx.row_mk]
  subst hc
  all_goals (refine ACalls_intro Tryz.func52 rfl (by kernel_rfl) (by simp) fun hwf hbel => ?_)
  all_goals (
    repeat' first
      | refine T_seq ?_
      | refine T_rgn ?_
      | refine T_cd ?_
      | refine T_sk ?_
      | refine T_rt ?_
      | refine T_block ?_
      | refine T_ex ?_
      | refine Kt_then ?_
      | refine Kt_block ?_
      | refine Kr_then ?_
      | refine Kr_block ?_
      | refine Ke_here ?_
      | refine Ke_then ?_
      | refine Hid.mk ?_
      | (refine eitherK.raw ?_; simp (maxSteps := 1000000) (disch := first | omega | assumption | (simp; done) | fail) [*, box_sb])
      | refine Gs.mk (fun g => ?_) (fun g => ?_) <;> (try simp only [nm] at g) <;> try (exfalso; first | contradiction | omega)
      | refine Gr.mk (fun g => ?_) (fun g => ?_) <;> (try simp only [nm] at g) <;> try (exfalso; first | contradiction | omega)
      | (refine Run.of ?_; simp (maxSteps := 1000000) (disch := first | omega | assumption | (simp; done) | fail) [*]))
  all_goals ((first | refine Kx.mk ?_ | refine Kt.mk ?_); refine owes_fz (H1 := H) [_] (l := [.cell 8 121]) (by first | exact .inr rfl | exact .inl rfl) hwf (Nat.le_refl _) rfl ?_ ?_ ⟨rfl, rfl⟩ <;> first | (exact below_agg1 (LEx.row_below _ _ _)) | (exact below_agg1 (LSt.row_below _ _ _)) | (simp (maxDischargeDepth := 20) [resP, packed, aload, partOf, frzVs, frzV, frzL, frz_nil, frz_msl, frz, LEx.row_mk, LSt.row_mk, xNot, xTwo, xTru, xNam, sSet, sIf, LEx.at', *]; done) | (simp (maxDischargeDepth := 20) [resP, packed, aload, partOf, frzVs, frzV, frzL, frz_nil, frz_msl, frz, LEx.row_mk, LSt.row_mk, xNot, xTwo, xTru, xNam, sSet, sIf, LEx.at', *]; first | (exact (by repeat (first | exact AS.Ext.refl _ | assumption | refine AS.Ext.bump ?_ | refine AS.Ext.kill (by first | omega | (simp; omega) | simp) ?_ | refine AS.Ext.setBox (by first | omega | (simp; omega)) ?_)); done) | (refine ⟨?_, (by repeat (first | exact AS.Ext.refl _ | assumption | refine AS.Ext.bump ?_ | refine AS.Ext.setBox (by first | omega | (simp; omega)) ?_))⟩; done)) | fail)
theorem xSet_ (H : AS) (a : Int) (c : Nat) (x y : LEx) (hc : c = H.color) : ACalls Tryz.prog 54 [pi a, .agg (x.row c), .agg (y.row c)] H fun q H' => q = .agg ((sSet a x y).row H.color) ∧ H' = H := by
  obtain ⟨xo, xa, xn, xf, xk, xb, xt, xs, xm⟩ := x
  simp only [LEx.row_mk]
  obtain ⟨yo, ya, yn, yf, yk, yb, yt, ys, ym⟩ := y
  simp only [LEx.row_mk]
  subst hc
  all_goals (refine ACalls_intro Tryz.func54 rfl (by kernel_rfl) (by simp) fun hwf hbel => ?_)
  all_goals (
    repeat' first
      | refine T_seq ?_
      | refine T_rgn ?_
      | refine T_cd ?_
      | refine T_sk ?_
      | refine T_rt ?_
      | refine T_block ?_
      | refine T_ex ?_
      | refine Kt_then ?_
      | refine Kt_block ?_
      | refine Kr_then ?_
      | refine Kr_block ?_
      | refine Ke_here ?_
      | refine Ke_then ?_
      | refine Hid.mk ?_
      | (refine eitherK.raw ?_; simp (maxSteps := 1000000) (disch := first | omega | assumption | (simp; done) | fail) [*, box_sb])
      | refine Gs.mk (fun g => ?_) (fun g => ?_) <;> (try simp only [nm] at g) <;> try (exfalso; first | contradiction | omega)
      | refine Gr.mk (fun g => ?_) (fun g => ?_) <;> (try simp only [nm] at g) <;> try (exfalso; first | contradiction | omega)
      | (refine Run.of ?_; simp (maxSteps := 1000000) (disch := first | omega | assumption | (simp; done) | fail) [*]))
  all_goals ((first | refine Kx.mk ?_ | refine Kt.mk ?_); refine owes_fz (H1 := H) [_] (l := [.cell 6 51]) (by first | exact .inr rfl | exact .inl rfl) hwf (Nat.le_refl _) rfl ?_ ?_ ⟨rfl, rfl⟩ <;> first | (exact below_agg1 (LEx.row_below _ _ _)) | (exact below_agg1 (LSt.row_below _ _ _)) | (simp (maxDischargeDepth := 20) [resP, packed, aload, partOf, frzVs, frzV, frzL, frz_nil, frz_msl, frz, LEx.row_mk, LSt.row_mk, xNot, xTwo, xTru, xNam, sSet, sIf, LEx.at', *]; done) | (simp (maxDischargeDepth := 20) [resP, packed, aload, partOf, frzVs, frzV, frzL, frz_nil, frz_msl, frz, LEx.row_mk, LSt.row_mk, xNot, xTwo, xTru, xNam, sSet, sIf, LEx.at', *]; first | (exact (by repeat (first | exact AS.Ext.refl _ | assumption | refine AS.Ext.bump ?_ | refine AS.Ext.kill (by first | omega | (simp; omega) | simp) ?_ | refine AS.Ext.setBox (by first | omega | (simp; omega)) ?_)); done) | (refine ⟨?_, (by repeat (first | exact AS.Ext.refl _ | assumption | refine AS.Ext.bump ?_ | refine AS.Ext.setBox (by first | omega | (simp; omega)) ?_))⟩; done)) | fail)
theorem xTruth_ (H : AS) (b : Bool) (a : Int) : ACalls Tryz.prog 82 [pb b, pi a] H fun q H' => q = .agg ((xTru b a).row H.color) ∧ H' = H := by
  cases b
  all_goals (refine ACalls_intro Tryz.func82 rfl (by kernel_rfl) (by simp) fun hwf hbel => ?_)
  all_goals (
    repeat' first
      | refine T_seq ?_
      | refine T_rgn ?_
      | refine T_cd ?_
      | refine T_sk ?_
      | refine T_rt ?_
      | refine T_block ?_
      | refine T_ex ?_
      | refine Kt_then ?_
      | refine Kt_block ?_
      | refine Kr_then ?_
      | refine Kr_block ?_
      | refine Ke_here ?_
      | refine Ke_then ?_
      | refine Hid.mk ?_
      | refine Gs.mk (fun g => ?_) (fun g => ?_) <;> (try simp only [nm] at g) <;> try (exfalso; first | contradiction | omega)
      | refine Gr.mk (fun g => ?_) (fun g => ?_) <;> (try simp only [nm] at g) <;> try (exfalso; first | contradiction | omega)
      | (refine Run.of ?_; simp (maxSteps := 1000000) (disch := first | omega | assumption | (simp; done) | fail) [*]))
  all_goals ((first | refine Kx.mk ?_ | refine Kt.mk ?_); refine owes_fz (H1 := H) [_] (l := [.cell 4 121]) (by first | exact .inr rfl | exact .inl rfl) hwf (Nat.le_refl _) rfl ?_ ?_ ⟨rfl, rfl⟩ <;> first | (exact below_agg1 (LEx.row_below _ _ _)) | (exact below_agg1 (LSt.row_below _ _ _)) | (simp (maxDischargeDepth := 20) [resP, packed, aload, partOf, frzVs, frzV, frzL, frz_nil, frz_msl, frz, LEx.row_mk, LSt.row_mk, xNot, xTwo, xTru, xNam, sSet, sIf, LEx.at', *]; done) | (simp (maxDischargeDepth := 20) [resP, packed, aload, partOf, frzVs, frzV, frzL, frz_nil, frz_msl, frz, LEx.row_mk, LSt.row_mk, xNot, xTwo, xTru, xNam, sSet, sIf, LEx.at', *]; first | (exact (by repeat (first | exact AS.Ext.refl _ | assumption | refine AS.Ext.bump ?_ | refine AS.Ext.kill (by first | omega | (simp; omega) | simp) ?_ | refine AS.Ext.setBox (by first | omega | (simp; omega)) ?_)); done) | (refine ⟨?_, (by repeat (first | exact AS.Ext.refl _ | assumption | refine AS.Ext.bump ?_ | refine AS.Ext.setBox (by first | omega | (simp; omega)) ?_))⟩; done)) | fail)
theorem xName_ (H : AS) (s : ByteArray) (a : Int) (hs : s.size ≤ 262145) : ACalls Tryz.prog 51 [ps s, pi a] H fun q H' => q = .agg ((xPlc s a).row H.color) ∧ H' = H := by
  by_cases hcut : (cut46 s).2.2 = true
  all_goals unfold xPlc
  all_goals (refine ACalls_intro Tryz.func51 rfl (by kernel_rfl) (by simp) fun hwf hbel => ?_)
  all_goals (
    repeat' first
      | refine T_seq ?_
      | refine T_rgn ?_
      | refine T_cd ?_
      | refine T_sk ?_
      | refine T_rt ?_
      | refine T_block ?_
      | refine T_ex ?_
      | refine Kt_then ?_
      | refine Kt_block ?_
      | refine Kr_then ?_
      | refine Kr_block ?_
      | refine Ke_here ?_
      | refine Ke_then ?_
      | refine Hid.mk ?_
      | (refine callR (cutIs _ _ hs) ?_; rintro _ Hz ⟨rfl, hz⟩; subst Hz)
      | refine Gs.mk (fun g => ?_) (fun g => ?_) <;> (try simp only [nm] at g) <;> try (exfalso; first | contradiction | omega)
      | refine Gr.mk (fun g => ?_) (fun g => ?_) <;> (try simp only [nm] at g) <;> try (exfalso; first | contradiction | omega)
      | (refine Run.of ?_; simp (maxSteps := 1000000) (disch := first | omega | assumption | (simp; done) | fail) [*]))
  all_goals ((first | refine Kx.mk ?_ | refine Kt.mk ?_); refine owes_fz (H1 := H) [_] (l := [.cell 4 121]) (by first | exact .inr rfl | exact .inl rfl) hwf (Nat.le_refl _) rfl ?_ ?_ ⟨rfl, rfl⟩ <;> first | (exact below_agg1 (LEx.row_below _ _ _)) | (exact below_agg1 (LSt.row_below _ _ _)) | (simp (maxDischargeDepth := 20) [resP, packed, aload, partOf, frzVs, frzV, frzL, frz_nil, frz_msl, frz, LEx.row_mk, LSt.row_mk, xNot, xTwo, xTru, xNam, sSet, sIf, LEx.at', *]; done) | (simp (maxDischargeDepth := 20) [resP, packed, aload, partOf, frzVs, frzV, frzL, frz_nil, frz_msl, frz, LEx.row_mk, LSt.row_mk, xNot, xTwo, xTru, xNam, sSet, sIf, LEx.at', *]; first | (exact (by repeat (first | exact AS.Ext.refl _ | assumption | refine AS.Ext.bump ?_ | refine AS.Ext.kill (by first | omega | (simp; omega) | simp) ?_ | refine AS.Ext.setBox (by first | omega | (simp; omega)) ?_)); done) | (refine ⟨?_, (by repeat (first | exact AS.Ext.refl _ | assumption | refine AS.Ext.bump ?_ | refine AS.Ext.setBox (by first | omega | (simp; omega)) ?_))⟩; done)) | fail)
end Go.Abs
namespace Go.Abs
open Go.Proofs
set_option autoImplicit false
set_option linter.all false
set_option maxRecDepth 100000
set_option maxHeartbeats 40000000
section
set_option maxHeartbeats 4000000
attribute [local simp ↓] wanted_at hbind_some
attribute [local simp] Gs_true Gs_false gcond_Gr Gr_true Gr_false abox frame0 int_beq int_bne aload astore partOf Keeps Same splice aUn aFieldAddr aField aBin aBinV aConvert aExtract aLen aBuild aBuild.go aalloc AS.Ext.refl AS.Ext.bump AS.Ext.setBox
/-- The maker: two lists of one's own in a box; O tells its boxes. -/
structure Mk (H : AS) (O : Nat → Prop) (id c : Nat) (S : List LSt) (V : List LVr) (p1 p2 : PV) : Prop where
  box : H.box id = some [[p1, p2]]
  s : OutIs 0 H p1 14 (S.map (LSt.row c))
  v : OutIs 0 H p2 16 (V.map LVr.row)
  own : ∀ j, O j ↔ j = id ∨ (∃ n s, p1 = .msl j n s) ∨ (∃ n s, p2 = .msl j n s)
  ne : ∀ j n s n' s', p1 = .msl j n s → ¬ p2 = .msl j n' s'
  n1 : ∀ n s, ¬ p1 = .msl id n s
  n2 : ∀ n s, ¬ p2 = .msl id n s
  lt : id < H.next
def MkE (H : AS) (O : Nat → Prop) (id c : Nat) (S : List LSt) (V : List LVr) : Prop := ∃ p1 p2, Mk H O id c S V p1 p2
/-- What the maker leaves alone. -/
structure Made (O O' : Nat → Prop) (H H' : AS) : Prop where
  next : H.next ≤ H'.next
  color : H'.color = H.color
  mp : ∀ j, j < H.next → H'.mp j = H.mp j
  box : ∀ j, j < H.next → ¬ O j → H'.box j = H.box j
  own : ∀ j, O' j → O j ∨ H.next ≤ j
theorem Made.refl (O : Nat → Prop) (H : AS) : Made O O H H := ⟨Nat.le_refl _, rfl, fun _ _ => rfl, fun _ _ _ => rfl, fun _ h => .inl h⟩
theorem Made.trans {O O' O'' : Nat → Prop} {H H' H'' : AS} (h : Made O O' H H') (h' : Made O' O'' H' H'') : Made O O'' H H'' := by
  refine ⟨Nat.le_trans h.next h'.next, by rw [h'.color, h.color], fun j hj => by rw [h'.mp j (Nat.lt_of_lt_of_le hj h.next), h.mp j hj], fun j hj ho => ?_, fun j ho => ?_⟩
  · rw [h'.box j (Nat.lt_of_lt_of_le hj h.next) fun ho' => ?_, h.box j hj ho]
    rcases h.own j ho' with h1 | h1
    · exact ho h1
    · omega
  · rcases h'.own j ho with h1 | h1
    · exact h.own j h1
    · exact .inr (Nat.le_trans h.next h1)
theorem Made.ext {O O' : Nat → Prop} {H H1 H' : AS} (h : Made O O' H1 H') (he : H.Ext H1) : Made O O' H H' :=
  ⟨Nat.le_trans he.next h.next, by rw [h.color, he.color], fun j hj => by rw [h.mp j (Nat.lt_of_lt_of_le hj he.next), he.mp j hj], fun j hj ho => by rw [h.box j (Nat.lt_of_lt_of_le hj he.next) ho, he.box j hj], fun j ho => (h.own j ho).imp id fun h1 => Nat.le_trans he.next h1⟩
theorem Mk.ext {H H' : AS} {O : Nat → Prop} {id c : Nat} {S : List LSt} {V : List LVr} {p1 p2 : PV} (h : Mk H O id c S V p1 p2) (he : H.Ext H') : Mk H' O id c S V p1 p2 :=
  ⟨by rw [he.box id h.lt]; exact h.box, h.s.keep he.next fun j _ hj => he.box j hj, h.v.keep he.next fun j _ hj => he.box j hj, h.own, h.ne, h.n1, h.n2, Nat.lt_of_lt_of_le h.lt he.next⟩
theorem MkE.ext {H H' : AS} {O : Nat → Prop} {id c : Nat} {S : List LSt} {V : List LVr} (h : MkE H O id c S V) (he : H.Ext H') : MkE H' O id c S V := by
  obtain ⟨p1, p2, h⟩ := h; exact ⟨p1, p2, h.ext he⟩
theorem Mk.olt {H : AS} {O : Nat → Prop} {id c : Nat} {S : List LSt} {V : List LVr} {p1 p2 : PV} (h : Mk H O id c S V p1 p2) {j : Nat} (hj : O j) : j < H.next := by
  rcases (h.own j).1 hj with rfl | ⟨n, s, e⟩ | ⟨n, s, e⟩
  · exact h.lt
  · exact (h.s.at_lt e).2
  · exact (h.v.at_lt e).2
theorem MkE.olt {H : AS} {O : Nat → Prop} {id c : Nat} {S : List LSt} {V : List LVr} (h : MkE H O id c S V) {j : Nat} (hj : O j) : j < H.next := by
  obtain ⟨p1, p2, h⟩ := h; exact h.olt hj
theorem MkE.oid {H : AS} {O : Nat → Prop} {id c : Nat} {S : List LSt} {V : List LVr} (h : MkE H O id c S V) : O id := by
  obtain ⟨p1, p2, h⟩ := h; exact (h.own id).2 (.inl rfl)
theorem MkE.idlt {H : AS} {O : Nat → Prop} {id c : Nat} {S : List LSt} {V : List LVr} (h : MkE H O id c S V) : id < H.next := h.olt h.oid
/-- A box beside the maker's. -/
structure Off (O : Nat → Prop) (H : AS) (j : Nat) (rows : List (List PV)) : Prop where
  box : H.box j = some rows
  lt : j < H.next
  off : ¬ O j
theorem Off.made {O O' : Nat → Prop} {H H' : AS} {j : Nat} {rows : List (List PV)} (h : Off O H j rows) (hm : Made O O' H H') : Off O' H' j rows :=
  ⟨by rw [hm.box j h.lt h.off]; exact h.box, Nat.lt_of_lt_of_le h.lt hm.next, fun ho => by rcases hm.own j ho with h1 | h1; (exact h.off h1); (have := h.lt; omega)⟩
theorem Off.ext {O : Nat → Prop} {H H' : AS} {j : Nat} {rows : List (List PV)} (h : Off O H j rows) (he : H.Ext H') : Off O H' j rows :=
  ⟨by rw [he.box j h.lt]; exact h.box, Nat.lt_of_lt_of_le h.lt he.next, h.off⟩
theorem Off.new {O : Nat → Prop} {H : AS} {id c : Nat} {S : List LSt} {V : List LVr} (h : MkE H O id c S V) {H' : AS} {j : Nat} {rows : List (List PV)} (hj : H.next ≤ j) (hb : H'.box j = some rows) (hl : j < H'.next) : Off O H' j rows :=
  ⟨hb, hl, fun ho => by have := h.olt ho; omega⟩
theorem Off.set {O : Nat → Prop} {H : AS} {j i : Nat} {rows r : List (List PV)} (h : Off O H j rows) (hne : ¬ j = i) : Off O (H.setBox i r) j rows := ⟨by simp [hne, h.box], h.lt, h.off⟩
theorem Off.here {O : Nat → Prop} {H : AS} {j : Nat} {rows r : List (List PV)} (h : Off O H j rows) : Off O (H.setBox j r) j r := ⟨by simp, h.lt, h.off⟩
/-- A box beside the maker's is written. -/
theorem MkE.off {H : AS} {O : Nat → Prop} {id c : Nat} {S : List LSt} {V : List LVr} (h : MkE H O id c S V) {j : Nat} {r : List (List PV)} (hj : ¬ O j) : MkE (H.setBox j r) O id c S V := by
  obtain ⟨p1, p2, h⟩ := h
  have hid : ¬ id = j := fun e => hj (e ▸ (h.own id).2 (.inl rfl))
  refine ⟨p1, p2, by simp [hid, h.box], ?_, ?_, h.own, h.ne, h.n1, h.n2, h.lt⟩
  · rcases h.s with ⟨e1, e2⟩ | ⟨i, h1, h2, h3, h4⟩
    · exact .inl ⟨e1, e2⟩
    · refine .inr ⟨i, h1, h2, h3, ?_⟩
      have : ¬ i = j := fun e => hj (e ▸ (h.own i).2 (.inr (.inl ⟨_, _, h3⟩)))
      simp [this, h4]
  · rcases h.v with ⟨e1, e2⟩ | ⟨i, h1, h2, h3, h4⟩
    · exact .inl ⟨e1, e2⟩
    · refine .inr ⟨i, h1, h2, h3, ?_⟩
      have : ¬ i = j := fun e => hj (e ▸ (h.own i).2 (.inr (.inr ⟨_, _, h3⟩)))
      simp [this, h4]
theorem OutIs.msl {lo : Nat} {H : AS} {p : PV} {sz : Nat} {rows : List (List PV)} (h : OutIs lo H p sz rows) (hne : ¬ rows = []) : ∃ j, j < H.next ∧ p = .msl j rows.length sz ∧ H.box j = some rows := by
  rcases h with ⟨h, _⟩ | ⟨j, _, h2, h3, h4⟩
  · exact absurd h hne
  · exact ⟨j, h2, h3, h4⟩
theorem outLen' {lo : Nat} {H : AS} {p : PV} {sz : Nat} {rows : List (List PV)} (h : OutIs lo H p sz rows) : lenOf p = some rows.length := by
  rcases h with ⟨rfl, rfl⟩ | ⟨id, _, _, rfl, _⟩ <;> rfl
theorem under26 : Tryz.prog.underlying 26 = some (.slice 51) := by kernel_rfl
theorem under27 : Tryz.prog.underlying 27 = some (.slice 111) := by kernel_rfl
theorem idx26 (id n i : Nat) (h : i < n) : aIndexAddr Tryz.prog 26 (.msl id n 14) (pi i) = some (.ptr id n i 0) := by
  unfold aIndexAddr; rw [under26]; simp [amsl h]
theorem LSt.len (c : Nat) (s : LSt) : (s.row c).length = 14 := by cases s; simp [LSt.row_mk]
theorem LSt.fz (c : Nat) (s : LSt) : ∀ p ∈ s.row c, Frozen p := by
  cases s; rw [LSt.row_mk]
  intro p hp
  simp only [List.mem_cons, List.not_mem_nil, or_false] at hp
  rcases hp with rfl | rfl | rfl | rfl | rfl | rfl | rfl | rfl | rfl | rfl | rfl | rfl | rfl | rfl
  all_goals first | exact frozen_sl _ _ _ | (simp [Frozen]; done) | trivial
theorem LVr.len (v : LVr) : v.row.length = 16 := rfl
theorem LVr.fz (v : LVr) : ∀ p ∈ v.row, Frozen p := by
  intro p hp
  simp only [LVr.row, List.mem_cons, List.not_mem_nil, or_false] at hp
  rcases hp with rfl | rfl | rfl | rfl | rfl | rfl | rfl | rfl | rfl | rfl | rfl | rfl | rfl | rfl | rfl | rfl
  all_goals first | trivial | (simp [Frozen]; done)
theorem partSt (c : Nat) (s : LSt) : partOf Tryz.prog 51 (s.row c) 0 = some (.agg (s.row c)) := by
  simp [partOf, LSt.len]; exact List.take_of_length_le (by simp [LSt.len])
theorem stSt {H : AS} {j n : Nat} {rows : List (List PV)} {z : List PV} (c : Nat) (s : LSt) (hb : H.box j = some (rows ++ [z])) (hn : rows.length = n) (hz : z.length = 14) : astore Tryz.prog H 51 (.ptr j (n + 1) n 0) (.agg (s.row c)) = some (H.setBox j (rows ++ [s.row c])) := by
  subst hn
  simp [astore, hb, PV.cells, PV.okCells, LSt.len, hz, splice, List.set_append]
  rw [List.drop_eq_nil_of_le (by omega)]; simp
theorem app_raw {P : Program} {lo : Nat} {H : AS} {p : PV} {sz : Nat} {rows : List (List PV)} (h : OutIs lo H p sz rows) (hlo : lo ≤ H.next) {sT elem : TypeId} {zs : List PV} {by_ : Nat}
    (h1 : P.underlying sT = some (.slice elem)) (hsz : szOf P elem = some sz) (hz : zeroOf P elem = some zs) (hb : bytesOf P elem = some by_)
    (hz1 : zs.length = sz) (hz2 : zs.all PV.atomic = true) (hby : 0 < by_) {j : Nat} {row' : List PV} (hj : H.box j = some [row'])
    (hsize : (rows.length + 1) * by_ ≤ 2 ^ 47) {k : PV → AS → Prop} (hk : ∀ p' H', OutIs lo H' p' sz (rows ++ [row']) → Above lo H H' → Elsewhere p p' H H' → Run (k p' H')) : @appendK P H sT sT p (.msl j 1 sz) ⟨k⟩ :=
  appR (aappend_outR h hlo h1 h1 hsz hz hb hz1 hz2 hby (ys := [row']) (by simp [srcOf, hj]) (.inl hsize) hk)
theorem setBox_comm {H : AS} {i j : Nat} {r s : List (List PV)} (h : ¬ i = j) : (H.setBox i r).setBox j s = (H.setBox j s).setBox i r := by
  cases H; simp only [AS.setBox, AS.mk.injEq, and_true]
  funext k
  split <;> split <;> first | rfl | (rename_i e1 e2; omega) | skip
theorem put_end {H M H3 : AS} {O : Nat → Prop} {id c jl n : Nat} {S : List LSt} {V : List LVr} {p1 p2 p3 : PV} {z : List PV} {s : LSt} (h : Mk H O id c S V p1 p2) (he : H.Ext M) (hout : OutIs 0 H3 p3 14 (S.map (LSt.row c) ++ [z])) (hel : Elsewhere p1 p3 M H3) (hp : p3 = .msl jl n 14) :
    ∃ O', MkE ((H3.setBox jl (S.map (LSt.row c) ++ [s.row c])).setBox id [[.msl jl n 14, p2]]) O' id c (S ++ [s]) V ∧ Made O O' H ((H3.setBox jl (S.map (LSt.row c) ++ [s.row c])).setBox id [[.msl jl n 14, p2]]) := by
  have hm := (h.ext he)
  have hjo : O jl ∨ M.next ≤ jl := by
    rcases hel.own jl _ _ hp with ⟨m, s', e⟩ | h1
    · exact .inl ((h.own jl).2 (.inr (.inl ⟨_, _, e⟩)))
    · exact .inr h1
  have hjid : ¬ jl = id := by
    rcases hel.own jl _ _ hp with ⟨m, s', e⟩ | h1
    · intro e'; subst e'; exact h.n1 _ _ e
    · have := hm.lt; omega
  have hjv : ∀ n' s', ¬ p2 = .msl jl n' s' := by
    intro n' s' e'
    rcases hel.own jl _ _ hp with ⟨m, s'', e⟩ | h1
    · exact h.ne jl _ _ _ _ e e'
    · have := (hm.v.at_lt e').2; omega
  obtain ⟨j2, hj2, e2, hb2⟩ := hout.msl (by simp)
  rw [hp] at e2
  injection e2 with e3 e4 e5
  subst e3
  have hM := hel.next
  have hE := he.next
  refine ⟨fun j => j = id ∨ j = jl ∨ ∃ n s, p2 = .msl j n s, ⟨.msl jl n 14, p2, by simp, ?_, ?_, ?_, ?_, ?_, h.n2, ?_⟩, ⟨?_, ?_, ?_, ?_, ?_⟩⟩
  · refine .inr ⟨jl, Nat.zero_le _, by simpa using hj2, ?_, ?_⟩
    · rw [e4]; simp
    · simp [hjid]
  · rcases hm.v with ⟨e1, e2⟩ | ⟨i, h1, h2, h3, h4⟩
    · exact .inl ⟨e1, e2⟩
    · refine .inr ⟨i, h1, by simp; omega, h3, ?_⟩
      have i1 : ¬ i = id := fun e => h.n2 _ _ (e ▸ h3)
      have i2 : ¬ i = jl := fun e => hjv _ _ (e ▸ h3)
      rw [box_setBox, if_neg i1, box_setBox, if_neg i2, hel.box i h2 fun n s e => h.ne i _ _ _ _ e h3, h4]
  · intro j
    constructor
    · rintro (rfl | rfl | h1)
      · exact .inl rfl
      · exact .inr (.inl ⟨_, _, rfl⟩)
      · exact .inr (.inr h1)
    · rintro (rfl | ⟨n, s, e⟩ | h1)
      · exact .inl rfl
      · injection e with e _ _; exact .inr (.inl e.symm)
      · exact .inr (.inr h1)
  · intro j n s n' s' e e'
    injection e with e _ _; subst e; exact hjv _ _ e'
  · intro n s e
    injection e with e _ _; exact hjid e
  · have := h.lt; simp; omega
  · simp; omega
  · simp [hel.color, he.color]
  · intro j hj; simp [hel.mp j, he.mp j hj]
  · intro j hj ho
    have i1 : ¬ j = id := fun e => ho ((h.own j).2 (.inl e))
    have i2 : ¬ j = jl := by
      rcases hjo with h1 | h1
      · intro e; subst e; exact ho h1
      · omega
    rw [box_setBox, if_neg i1, box_setBox, if_neg i2, hel.box j (by omega) fun n s e => ho ((h.own j).2 (.inr (.inl ⟨_, _, e⟩))), he.box j hj]
  · rintro j (rfl | rfl | ⟨n, s, e⟩)
    · exact .inl ((h.own j).2 (.inl rfl))
    · rcases hjo with h1 | h1
      · exact .inl h1
      · exact .inr (by omega)
    · exact .inl ((h.own j).2 (.inr (.inr ⟨_, _, e⟩)))
theorem hid_end {H M H3 : AS} {O : Nat → Prop} {id c : Nat} {S : List LSt} {V : List LVr} {p1 p2 p3 : PV} {v : LVr} (h : Mk H O id c S V p1 p2) (he : H.Ext M) (hout : OutIs 0 H3 p3 16 (V.map LVr.row ++ [v.row])) (hel : Elsewhere p2 p3 M H3) :
    ∃ O', MkE (H3.setBox id [[p1, p3]]) O' id c S (V ++ [v]) ∧ Made O O' H (H3.setBox id [[p1, p3]]) := by
  have hm := (h.ext he)
  obtain ⟨jl, hj2, hp, hb2⟩ := hout.msl (by simp)
  have hjo : O jl ∨ M.next ≤ jl := by
    rcases hel.own jl _ _ hp with ⟨m, s', e⟩ | h1
    · exact .inl ((h.own jl).2 (.inr (.inr ⟨_, _, e⟩)))
    · exact .inr h1
  have hjid : ¬ jl = id := by
    rcases hel.own jl _ _ hp with ⟨m, s', e⟩ | h1
    · intro e'; subst e'; exact h.n2 _ _ e
    · have := hm.lt; omega
  have hjv : ∀ n' s', ¬ p1 = .msl jl n' s' := by
    intro n' s' e'
    rcases hel.own jl _ _ hp with ⟨m, s'', e⟩ | h1
    · exact h.ne jl _ _ _ _ e' e
    · have := (hm.s.at_lt e').2; omega
  have hM := hel.next
  have hE := he.next
  refine ⟨fun j => j = id ∨ (∃ n s, p1 = .msl j n s) ∨ j = jl, ⟨p1, p3, by simp, ?_, ?_, ?_, ?_, h.n1, ?_, ?_⟩, ⟨?_, ?_, ?_, ?_, ?_⟩⟩
  · rcases hm.s with ⟨e1, e2⟩ | ⟨i, h1, h2, h3, h4⟩
    · exact .inl ⟨e1, e2⟩
    · refine .inr ⟨i, h1, by simp; omega, h3, ?_⟩
      have i1 : ¬ i = id := fun e => h.n1 _ _ (e ▸ h3)
      rw [box_setBox, if_neg i1, hel.box i h2 fun n s e => h.ne i _ _ _ _ h3 e, h4]
  · refine .inr ⟨jl, Nat.zero_le _, by simpa using hj2, ?_, ?_⟩
    · rw [hp]; simp
    · simp [hjid, hb2]
  · intro j
    constructor
    · rintro (rfl | h1 | rfl)
      · exact .inl rfl
      · exact .inr (.inl h1)
      · exact .inr (.inr ⟨_, _, hp⟩)
    · rintro (rfl | h1 | ⟨n, s, e⟩)
      · exact .inl rfl
      · exact .inr (.inl h1)
      · rw [hp] at e; injection e with e _ _; exact .inr (.inr e.symm)
  · intro j n s n' s' e e'
    rw [hp] at e'; injection e' with e' _ _; subst e'; exact hjv _ _ e
  · intro n s e
    rw [hp] at e; injection e with e _ _; exact hjid e
  · have := h.lt; simp; omega
  · simp; omega
  · simp [hel.color, he.color]
  · intro j hj; simp [hel.mp j, he.mp j hj]
  · intro j hj ho
    have i1 : ¬ j = id := fun e => ho ((h.own j).2 (.inl e))
    rw [box_setBox, if_neg i1, hel.box j (by omega) fun n s e => ho ((h.own j).2 (.inr (.inr ⟨_, _, e⟩))), he.box j hj]
  · rintro j (rfl | ⟨n, s, e⟩ | rfl)
    · exact .inl ((h.own j).2 (.inl rfl))
    · exact .inl ((h.own j).2 (.inr (.inl ⟨_, _, e⟩)))
    · rcases hjo with h1 | h1
      · exact .inl h1
      · exact .inr (by omega)
theorem LSt.take14 (c : Nat) (s : LSt) : List.take 14 (s.row c) = s.row c := List.take_of_length_le (by simp [LSt.len])
theorem owesO_none {fn : Func} {P : Program} {F' : AF} {H' : AS} {e : Exit} {k : PV → AS → Prop} (he : e = .normal ∨ e = .ret) (hr : aResults P F' H' fn.results.toList = some []) (hk : k (.tuple []) H') : OwesO P fn k e F' H' := by
  refine ⟨he, ?_⟩
  rw [hr]; exact hk
theorem LSt.ok (c : Nat) (s : LSt) : PV.okCells (.agg (s.row c)) = true := rfl
theorem xPut (H : AS) (O : Nat → Prop) (id c : Nat) (S : List LSt) (V : List LVr) (s : LSt) (h : MkE H O id c S V) (hS : S.length < 1073741824) : ACalls Tryz.prog 33 [.ptr id 1 0 0, .agg (s.row c)] H fun q H' => q = .tuple [] ∧ ∃ O', MkE H' O' id c (S ++ [s]) (V) ∧ Made O O' H H' := by
  obtain ⟨p1, p2, h⟩ := h
  refine ACalls_open Tryz.func33 rfl (by kernel_rfl) (by simp) fun hwf hbel => ?_
  have hb := h.box
  have hlt := h.lt
  have hid1 : ¬ id = H.next := by omega
  have hid2 : ¬ id = H.next + 1 := by omega
  have hid3 : ¬ H.next = id := by omega
  have hln := outLen' h.s
  simp only [List.length_map] at hln
  repeat' first
    | refine T_seq ?_
    | refine T_rgn ?_
    | refine T_cd ?_
    | refine T_sk ?_
    | refine T_rt ?_
    | refine T_block ?_
    | refine T_ex ?_
    | refine Kt_then ?_
    | refine Kt_block ?_
    | refine Kr_then ?_
    | refine Kr_block ?_
    | refine Ke_here ?_
    | refine Ke_then ?_
    | refine Hid.mk ?_
    | refine T_dr (id := 1) (fun i => i = id ∨ i = H.next) [9, 12] (.free 0 (.free 1 (.free 2 (.free 3 (.free 4 (.free 5 (.sole 6 (.sole 7 (.free 8 (.free 10 (.free 11 (.two 9 12 (.sole 12 .done) (.sole 9 .done))))))))))))) mix ?_
    | (refine eitherK.raw ?_; simp (maxSteps := 1000000) (disch := first | omega | assumption | (simp; done) | fail) [*, LSt.len])
    | (refine app_raw (lo := 0) (rows := S.map (LSt.row c)) ((h.s.keep (by simp; omega) (fun i hi1 hi2 => by simp [show ¬ i = H.next by omega, show ¬ i = H.next + 1 by omega])).keep (Nat.le_refl _) (fun _ _ _ => rfl)) (Nat.zero_le _) under26 Tryz.sz51 Tryz.zero51 Tryz.by51 rfl rfl (by decide) (box_sb _ _ _ _) (by simp; omega) ?_; rintro p3 H3 hout3 hab3 hel3; obtain ⟨jl, hjl, hpl, hbl⟩ := hout3.msl (by simp); simp only [List.length_append, List.length_map, List.length_cons, List.length_nil, Nat.zero_add] at hpl; have hjid : ¬ jl = id := (by rcases hel3.own jl _ _ hpl with ⟨m, s1, e⟩ | h1; (intro e1; subst e1; exact h.n1 _ _ e); (simp at h1; omega)); have hjid2 : ¬ id = jl := (fun e => hjid e.symm); have hb3 : H3.box id = some [[p1, p2]] := (by rw [hel3.box id (by simp; omega) h.n1]; simp [*]); have hb4 : H3.box H.next = some [s.row c] := (by rw [hel3.box H.next (by simp; omega) (fun n s e => by have := h.s.at_lt e; omega)]; simp [*]); have hjn : ¬ H.next = jl := (by rcases hel3.own jl _ _ hpl with ⟨m, s1, e⟩ | h1; (have := h.s.at_lt e; omega); (simp at h1; omega)); have hst := stSt (n := S.length) c s hbl (by simp) rfl; have hst2 := fun r => stSt (H := H3.setBox id r) (j := jl) (n := S.length) c s (by rw [box_setBox, if_neg hjid]; exact hbl) (by simp) rfl; have hc3 : H3.color = H.color := (by rw [hel3.color]; simp))
    | refine And.intro ?_ ?_
    | refine Gs.mk (fun g => ?_) (fun g => ?_) <;> (try simp only [nm] at g) <;> try (exfalso; first | contradiction | omega)
    | refine Gr.mk (fun g => ?_) (fun g => ?_) <;> (try simp only [nm] at g) <;> try (exfalso; first | contradiction | omega)
    | (refine Run.of ?_; simp (maxSteps := 1000000) (disch := first | omega | assumption | (simp; done) | fail) [*, LSt.len, LSt.take14, partSt, box_sb, outLen', wk_two, aStep_eq, LSt.ok, idx26])
  all_goals first
    | (refine Kt.mk ?_; exact owesO_none (.inl rfl) rfl ⟨rfl, put_end h (by repeat (first | exact AS.Ext.refl _ | assumption | refine AS.Ext.bump ?_ | refine AS.Ext.setBox (by first | omega | (simp; omega)) ?_)) hout3 hel3 hpl⟩)
    | (rw [setBox_comm hjid2]; refine Kt.mk ?_; exact owesO_none (.inl rfl) rfl ⟨rfl, put_end h (by repeat (first | exact AS.Ext.refl _ | assumption | refine AS.Ext.bump ?_ | refine AS.Ext.setBox (by first | omega | (simp; omega)) ?_)) hout3 hel3 hpl⟩)
theorem xHidden (H : AS) (O : Nat → Prop) (id c : Nat) (S : List LSt) (V : List LVr) (s : ByteArray) (cl k : Int) (h : MkE H O id c S V) (hV : V.length < 1073741824) : ACalls Tryz.prog 31 [.ptr id 1 0 0, ps s, pi cl, k8 k] H fun q H' => q = .tuple [] ∧ ∃ O', MkE H' O' id c (S) (V ++ [⟨s, cl, k⟩]) ∧ Made O O' H H' := by
  obtain ⟨p1, p2, h⟩ := h
  refine ACalls_open Tryz.func31 rfl (by kernel_rfl) (by simp) fun hwf hbel => ?_
  have hb := h.box
  have hlt := h.lt
  have hid1 : ¬ id = H.next := by omega
  have hid2 : ¬ id = H.next + 1 := by omega
  have hid3 : ¬ H.next = id := by omega
  repeat' first
    | refine T_seq ?_
    | refine T_rgn ?_
    | refine T_cd ?_
    | refine T_sk ?_
    | refine T_rt ?_
    | refine T_block ?_
    | refine T_ex ?_
    | refine Kt_then ?_
    | refine Kt_block ?_
    | refine Kr_then ?_
    | refine Kr_block ?_
    | refine Ke_here ?_
    | refine Ke_then ?_
    | refine Hid.mk ?_
    | (refine bs_one under27 Tryz.sz111 Tryz.zero111 rfl rfl (by decide) (by rfl) ?_; simp (disch := first | omega | assumption | (simp; done) | fail) [*])
    | (refine app_one (lo := 0) (rows := V.map LVr.row) (h.v.keep (by simp) (fun i hi1 hi2 => by simp [show ¬ i = H.next by omega])) (Nat.zero_le _) under27 Tryz.sz111 Tryz.zero111 Tryz.by111 rfl rfl (by decide) (box_sb _ _ _ _) (LVr.fz ⟨s, cl, k⟩) (by simp; omega) ?_; rintro p3 H3 hout3 hab3 hel3; have hb3 : H3.box id = some [[p1, p2]] := (by rw [hel3.box id (by simp; omega) h.n2]; simp [*]); have hp3c := hout3.cells; have hp3k := hout3.okCells)
    | refine Gs.mk (fun g => ?_) (fun g => ?_) <;> (try simp only [nm] at g) <;> try (exfalso; first | contradiction | omega)
    | refine Gr.mk (fun g => ?_) (fun g => ?_) <;> (try simp only [nm] at g) <;> try (exfalso; first | contradiction | omega)
    | (refine Run.of ?_; simp (maxSteps := 1000000) (disch := first | omega | assumption | (simp; done) | fail) [*, box_sb])
  all_goals (refine Kt.mk ?_; exact owesO_none (.inl rfl) rfl ⟨rfl, hid_end (v := ⟨s, cl, k⟩) h (by repeat (first | exact AS.Ext.refl _ | assumption | refine AS.Ext.bump ?_ | refine AS.Ext.setBox (by first | omega | (simp; omega)) ?_)) hout3 hel3⟩)
set_option maxHeartbeats 4000000
theorem call_frz {P : Program} {H : AS} {f : FuncId} {args args' : List PV} {k k0 : PV → AS → Prop} (hf : (frzVs H args).1 = args') (h : ACalls P f args' (frzVs H args).2 k0) (hk : ∀ q H', k0 q H' → Run (k q H')) : @callK P f args H ⟨k⟩ :=
  callR (ACalls.frz (by rw [hf]; exact h)) hk
theorem frz_color (H : AS) (p : PV) : (frz H p).2.color = H.color := by
  unfold frz
  repeat' split
  all_goals rfl
theorem frzL_color : ∀ (l : List PV) (H : AS), (frzL H l).2.color = H.color
  | [], _ => rfl
  | p :: l, H => by simp only [frzL]; rw [frzL_color l, frz_color]
theorem frzV_color (H : AS) (p : PV) : (frzV H p).2.color = H.color := by
  unfold frzV
  split
  · exact frzL_color _ _
  · exact frz_color _ _
theorem frzVs_color : ∀ (l : List PV) (H : AS), (frzVs H l).2.color = H.color
  | [], _ => rfl
  | p :: l, H => by simp only [frzVs]; rw [frzVs_color l, frzV_color]
theorem bs_fz {P : Program} {H : AS} {t elem : TypeId} {sz : Nat} {zs : List PV} {x : PV} {y : Option (PV × AS)} {k : PV → AS → Prop} (hu : P.underlying t = some (.slice elem)) (hs : szOf P elem = some sz) (hz : zeroOf P elem = some zs)
    (hok : x.okCells = true) (hlen : x.cells.length = sz) (hsz : sz ≤ 2 ^ 24) (h : k (.msl (frzR H [x.cells]).2.next 1 sz) (((frzR H [x.cells]).2.setBox (frzR H [x.cells]).2.next (frzR H [x.cells]).1).bump 1)) : @eitherK (abuildSlice P H t 1 [(0, x)]) y ⟨k⟩ := by
  obtain ⟨r, hr⟩ : ∃ r, (frzR H [x.cells]).1 = [r] := ⟨_, rfl⟩
  rw [hr] at h
  exact bs_one hu hs hz hok hlen hsz (Prod.ext hr rfl) h
theorem LEx.len (c : Nat) (s : LEx) : (s.row c).length = 14 := by cases s; simp [LEx.row_mk]
theorem LEx.take14 (c : Nat) (s : LEx) : List.take 14 (s.row c) = s.row c := List.take_of_length_le (by simp [LEx.len])
theorem LEx.fz (c : Nat) (s : LEx) : ∀ p ∈ s.row c, Frozen p := by
  cases s; rw [LEx.row_mk]
  intro p hp
  simp only [List.mem_cons, List.not_mem_nil, or_false] at hp
  rcases hp with rfl | rfl | rfl | rfl | rfl | rfl | rfl | rfl | rfl | rfl | rfl | rfl | rfl | rfl
  all_goals first | exact frozen_sl _ _ _ | (simp [Frozen]; done) | trivial
theorem frzLx (H : AS) (c : Nat) (s : LEx) : frzL H (s.row c) = (s.row c, H) := frzL_id (LEx.fz c s)
theorem frzLs (H : AS) (c : Nat) (s : LSt) : frzL H (s.row c) = (s.row c, H) := frzL_id (LSt.fz c s)
theorem xCoil (H : AS) (O : Nat → Prop) (id c : Nat) (S : List LSt) (V : List LVr) (ci : Nat) (e : LEl) (a : Int) (rg : ByteArray) (hc : c = H.color) (hn : e.name.size ≤ 262145) (h : MkE H O id c S V) (hS : S.length < 1073741824) : ACalls Tryz.prog 57 [.ptr id 1 0 0, .agg (e.row ci), pi a, ps rg] H fun q H' => q = .tuple [] ∧ ∃ O', MkE H' O' id c (S ++ [coilS a rg e]) (V) ∧ Made O O' H H' := by
  subst hc
  rw [LEl.row_eq]
  refine ACalls_open Tryz.func57 rfl (by kernel_rfl) (by simp) fun hwf hbel => ?_
  have hid := h.idlt
  have hid1 : ¬ id = H.next := by omega
  repeat' first
    | refine T_seq ?_
    | refine T_rgn ?_
    | refine T_cd ?_
    | refine T_sk ?_
    | refine T_rt ?_
    | refine T_block ?_
    | refine T_ex ?_
    | refine Kt_then ?_
    | refine Kt_block ?_
    | refine Kr_then ?_
    | refine Kr_block ?_
    | refine Ke_here ?_
    | refine Ke_then ?_
    | refine Hid.mk ?_
    | refine T_dr (id := 9) (fun i => i = H.next ∨ i = H.next + 1 ∨ i = H.next + 2) [] (.free 0 (.free 1 (.free 2 (.free 3 (.free 4 (.free 5 (.sole 6 (.sole 7 (.sole 8 (.free 9 .done)))))))))) mix ?_
    | refine And.intro (fun _ h1 h2 => absurd h2 h1) ?_
    | (refine bs_fz under42 Tryz.sz121 Tryz.zero121 rfl rfl (by decide) ?_; simp (disch := first | omega | assumption | (simp; done) | fail) [*, frzR, frzL, frz, PV.cells])
    | (refine eitherK.raw ?_; simp (maxSteps := 1000000) (disch := first | omega | assumption | (simp; done) | fail) [*, LSt.len, LSt.take14, LEx.len, LEx.take14])
    | (refine call_frz (args' := [pi a, .agg (LEx.row H.color (xPlc e.name e.pos)), .agg (LEx.row H.color (xNam rg a))]) ?_ (xSet_ _ a H.color (xPlc e.name e.pos) (xNam rg a) (by rw [frzVs_color]; simp)) ?_; (focus (simp (maxDischargeDepth := 20) [frzLx, frzLs, frzVs, frzV, frzL, frz_nil, frz_msl, frz, LEx.row_mk, LSt.row_mk, xNot, xTwo, xTru, xNam, sSet, sIf, LEx.at', nRow, *] <;> rfl; done)); rintro _ Hz ⟨rfl, hz⟩; (try simp (maxDischargeDepth := 20) [frzLx, frzLs, frzVs, frzV, frzL, frz_nil, frz_msl, frz, LEx.row_mk, LSt.row_mk, xNot, xTwo, xTru, xNam, sSet, sIf, LEx.at', nRow, *] at hz); subst Hz)
    | (refine call_frz (args' := [pi a, .agg (LEx.row H.color (xPlc e.name e.pos)), .agg (LEx.row H.color (LEx.mk 16 e.pos eE eE 0 0 eE [xNam rg a] []))]) ?_ (xSet_ _ a H.color (xPlc e.name e.pos) (LEx.mk 16 e.pos eE eE 0 0 eE [xNam rg a] []) (by rw [frzVs_color]; simp)) ?_; (focus (simp (maxDischargeDepth := 20) [frzLx, frzLs, frzVs, frzV, frzL, frz_nil, frz_msl, frz, LEx.row_mk, LSt.row_mk, xNot, xTwo, xTru, xNam, sSet, sIf, LEx.at', nRow, *] <;> rfl; done)); rintro _ Hz ⟨rfl, hz⟩; (try simp (maxDischargeDepth := 20) [frzLx, frzLs, frzVs, frzV, frzL, frz_nil, frz_msl, frz, LEx.row_mk, LSt.row_mk, xNot, xTwo, xTru, xNam, sSet, sIf, LEx.at', nRow, *] at hz); subst Hz)
    | (refine call_frz (args' := [pi a, .agg (LEx.row H.color (xPlc e.name e.pos)), .agg (LEx.row H.color (xTru true a))]) ?_ (xSet_ _ a H.color (xPlc e.name e.pos) (xTru true a) (by rw [frzVs_color]; simp)) ?_; (focus (simp (maxDischargeDepth := 20) [frzLx, frzLs, frzVs, frzV, frzL, frz_nil, frz_msl, frz, LEx.row_mk, LSt.row_mk, xNot, xTwo, xTru, xNam, sSet, sIf, LEx.at', nRow, *] <;> rfl; done)); rintro _ Hz ⟨rfl, hz⟩; (try simp (maxDischargeDepth := 20) [frzLx, frzLs, frzVs, frzV, frzL, frz_nil, frz_msl, frz, LEx.row_mk, LSt.row_mk, xNot, xTwo, xTru, xNam, sSet, sIf, LEx.at', nRow, *] at hz); subst Hz)
    | (refine call_frz (args' := [pi a, .agg (LEx.row H.color (xPlc e.name e.pos)), .agg (LEx.row H.color (xTru false a))]) ?_ (xSet_ _ a H.color (xPlc e.name e.pos) (xTru false a) (by rw [frzVs_color]; simp)) ?_; (focus (simp (maxDischargeDepth := 20) [frzLx, frzLs, frzVs, frzV, frzL, frz_nil, frz_msl, frz, LEx.row_mk, LSt.row_mk, xNot, xTwo, xTru, xNam, sSet, sIf, LEx.at', nRow, *] <;> rfl; done)); rintro _ Hz ⟨rfl, hz⟩; (try simp (maxDischargeDepth := 20) [frzLx, frzLs, frzVs, frzV, frzL, frz_nil, frz_msl, frz, LEx.row_mk, LSt.row_mk, xNot, xTwo, xTru, xNam, sSet, sIf, LEx.at', nRow, *] at hz); subst Hz)
    | (refine callR (xPut _ O id H.color S V _ (h.ext ?_) hS) ?_; (focus ((repeat (first | exact AS.Ext.refl _ | assumption | refine AS.Ext.bump ?_ | refine AS.Ext.kill (by first | omega | (simp; omega) | simp) ?_ | refine AS.Ext.setBox (by first | omega | (simp; omega)) ?_)); done)); rintro _ H2 ⟨rfl, O2, hmk, hmd⟩)
    | (refine call_frz (args' := [.ptr id 1 0 0, .agg (LSt.row H.color (sIf a (xNam rg a) [sSet a (xPlc e.name e.pos) (xTru true a)]))]) ?_ (xPut _ O id H.color S V _ (h.ext ?_) hS) ?_; (focus (simp (maxDischargeDepth := 20) [frzLx, frzLs, frzVs, frzV, frzL, frz_nil, frz_msl, frz, LEx.row_mk, LSt.row_mk, xNot, xTwo, xTru, xNam, sSet, sIf, LEx.at', nRow, *] <;> rfl; done)); (focus (simp (maxDischargeDepth := 20) [frzLx, frzLs, frzVs, frzV, frzL, frz_nil, frz_msl, frz, LEx.row_mk, LSt.row_mk, xNot, xTwo, xTru, xNam, sSet, sIf, LEx.at', nRow, *]; (repeat (first | exact AS.Ext.refl _ | assumption | refine AS.Ext.bump ?_ | refine AS.Ext.kill (by first | omega | (simp; omega) | simp) ?_ | refine AS.Ext.setBox (by first | omega | (simp; omega)) ?_)); done)); rintro _ H2 ⟨rfl, O2, hmk, hmd⟩)
    | (refine call_frz (args' := [.ptr id 1 0 0, .agg (LSt.row H.color (sIf a (xNam rg a) [sSet a (xPlc e.name e.pos) (xTru false a)]))]) ?_ (xPut _ O id H.color S V _ (h.ext ?_) hS) ?_; (focus (simp (maxDischargeDepth := 20) [frzLx, frzLs, frzVs, frzV, frzL, frz_nil, frz_msl, frz, LEx.row_mk, LSt.row_mk, xNot, xTwo, xTru, xNam, sSet, sIf, LEx.at', nRow, *] <;> rfl; done)); (focus (simp (maxDischargeDepth := 20) [frzLx, frzLs, frzVs, frzV, frzL, frz_nil, frz_msl, frz, LEx.row_mk, LSt.row_mk, xNot, xTwo, xTru, xNam, sSet, sIf, LEx.at', nRow, *]; (repeat (first | exact AS.Ext.refl _ | assumption | refine AS.Ext.bump ?_ | refine AS.Ext.kill (by first | omega | (simp; omega) | simp) ?_ | refine AS.Ext.setBox (by first | omega | (simp; omega)) ?_)); done)); rintro _ H2 ⟨rfl, O2, hmk, hmd⟩)
    | (refine callR (xName_ _ _ _ hn) ?_; rintro _ Hz ⟨rfl, hz⟩; subst Hz)
    | (refine callR (xTruth_ _ _ _) ?_; rintro _ Hz ⟨rfl, hz⟩; subst Hz)
    | refine Gs.mk (fun g => ?_) (fun g => ?_) <;> (try simp only [nm] at g) <;> try (exfalso; first | contradiction | omega)
    | refine Gr.mk (fun g => ?_) (fun g => ?_) <;> (try simp only [nm] at g) <;> try (exfalso; first | contradiction | omega)
    | (refine Run.of ?_; simp (maxSteps := 1000000) (disch := first | omega | assumption | (simp; done) | fail) [*, box_sb, frzVs_color, color_kill, LEx.len, LEx.take14, LSt.len, LSt.take14])
  all_goals (refine Kt.mk ?_; refine owesO_none (.inl rfl) rfl ⟨rfl, O2, ?_, ?_⟩)
  all_goals first
    | (simpa [coilS, *] using hmk)
    | (refine hmd.ext ?_; (try simp (maxDischargeDepth := 20) [frzLx, frzLs, frzVs, frzV, frzL, frz_nil, frz_msl, frz, LEx.row_mk, LSt.row_mk, xNot, xTwo, xTru, xNam, sSet, sIf, LEx.at', nRow, *]); (repeat (first | exact AS.Ext.refl _ | assumption | refine AS.Ext.bump ?_ | refine AS.Ext.kill (by first | omega | (simp; omega) | simp) ?_ | refine AS.Ext.setBox (by first | omega | (simp; omega)) ?_)); done)
    | fail
set_option maxHeartbeats 4000000
theorem LEx.drop14 (c : Nat) (s : LEx) : List.drop 14 (s.row c) = [] := List.drop_eq_nil_of_le (by simp [LEx.len])
theorem xEach (H : AS) (O : Nat → Prop) (id c : Nat) (S : List LSt) (V : List LVr) (jc jm jx n : Nat) (e : LEl) (rg : LRg) (c' ci : Nat) (hc : c = H.color) (hn : e.name.size ≤ 262145) (h : MkE H O id c S V) (hjc : Off O H jc [[pi n]]) (hjm : Off O H jm [[.ptr id 1 0 0]]) (hjx : Off O H jx [rg.row c']) (hmc : ¬ jm = jc) (hxc : ¬ jx = jc) (hS : S.length < 536870912) (hV : V.length < 536870912) (hnn : n < 1073741824) : ACalls Tryz.prog 50 [.agg (e.row ci), .ptr jc 1 0 0, .ptr jm 1 0 0, .ptr jx 1 0 0] H fun q H' => q = .tuple [] ∧ ∃ O', MkE H' O' id c (S ++ edgeS rg.pos (n + 1) e) (V ++ edgeV (n + 1)) ∧ Made O O' (H.setBox jc [[pi ((n + 1 : Nat) : Int)]]) H' := by
  subst hc
  rw [LEl.row_eq]
  refine ACalls_open Tryz.func50 rfl (by kernel_rfl) (by simp) fun hwf hbel => ?_
  have lc := hjc.lt
  have lm := hjm.lt
  have lx := hjx.lt
  have bc := hjc.box
  have bm := hjm.box
  have bx := hjx.box
  rw [LRg.row_eq] at bx
  have e1 : ¬ jc = H.next := by omega
  have e2 : ¬ jm = H.next := by omega
  have e3 : ¬ jx = H.next := by omega
  have e4 : ¬ H.next = jc := by omega
  have hw : IntKind.i64.wrap ((n : Int) + 1) = ((n + 1 : Nat) : Int) := by rw [wrap_i64 (by omega) (by omega)]; omega
  have hsz := hid_size [] (n + 1) (by omega)
  simp only [List.length_nil, Nat.zero_add] at hsz
  have hE1 : (⟨#[95, 69]⟩ : ByteArray) ++ hid [] (n + 1) = hE (n + 1) := hid_app [95, 69] (n + 1)
  have hP1 : (⟨#[95, 80]⟩ : ByteArray) ++ hid [] (n + 1) = hP (n + 1) := hid_app [95, 80] (n + 1)
  repeat' first
    | refine T_seq ?_
    | refine T_rgn ?_
    | refine T_cd ?_
    | refine T_sk ?_
    | refine T_rt ?_
    | refine T_block ?_
    | refine T_ex ?_
    | refine Kt_then ?_
    | refine Kt_block ?_
    | refine Kr_then ?_
    | refine Kr_block ?_
    | refine Ke_here ?_
    | refine Ke_then ?_
    | refine Hid.mk ?_
    | refine T_dr (id := 8) (fun j => j = H.next ∨ j = H3.next ∨ j = H3.next + 1) [7] (.free 0 (.free 1 (.free 2 (.free 3 (.two 4 6 (.two 5 6 (.sole 6 (.sole 7 .done)) (.sole 5 (.sole 7 .done))) (.sole 4 (.sole 5 (.sole 7 .done)))))))) mix ?_
    | refine T_dr (id := 10) (fun j => j = H.next ∨ j = H3.next ∨ j = H3.next + 1) [6] (.free 0 (.free 1 (.free 2 (.free 4 (.sole 3 (.sole 5 (.sole 6 .done))))))) mix ?_
    | refine T_dr (id := 11) (fun j => j = jm ∨ j = jx ∨ j = H.next ∨ j = H3.next ∨ j = H3.next + 1 ∨ j = H3.next + 1 + 1) [] (.free 0 (.free 1 (.free 2 (.free 3 (.free 4 (.free 5 (.free 6 (.free 7 (.sole 8 (.sole 9 .done)))))))))) mix ?_
    | refine T_dr (id := 12) (fun j => j = jm ∨ j = jx ∨ j = H.next ∨ j = H3.next ∨ j = H3.next + 1 ∨ j = H3.next + 1 + 1) [] (.free 0 (.free 1 (.free 2 (.free 3 (.free 4 (.sole 5 (.sole 6 .done))))))) mix ?_
    | refine And.intro (fun _ h1 h2 => absurd h2 h1) ?_
    | (refine callR (xHidden _ O id H.color S V (hE (n + 1)) 5 1 ((h.ext (by (repeat (first | exact AS.Ext.refl _ | assumption | refine AS.Ext.bump ?_ | refine AS.Ext.kill (by first | omega | (simp; omega) | simp) ?_ | refine AS.Ext.setBox (by first | omega | (simp; omega)) ?_)); done)).off hjc.off) (by omega)) ?_; rintro _ H2 ⟨rfl, O2, hk2, hd2⟩; have fm2 : Off O2 H2 jm [[.ptr id 1 0 0]] := ((hjm.ext (by (repeat (first | exact AS.Ext.refl _ | assumption | refine AS.Ext.bump ?_ | refine AS.Ext.kill (by first | omega | (simp; omega) | simp) ?_ | refine AS.Ext.setBox (by first | omega | (simp; omega)) ?_)); done)).set hmc).made hd2; have fx2 : Off O2 H2 jx [rg.row c'] := ((hjx.ext (by (repeat (first | exact AS.Ext.refl _ | assumption | refine AS.Ext.bump ?_ | refine AS.Ext.kill (by first | omega | (simp; omega) | simp) ?_ | refine AS.Ext.setBox (by first | omega | (simp; omega)) ?_)); done)).set hxc).made hd2; have fe2 : Off O2 H2 H.next [[pi e.op, pi e.pos, ps e.name, PV.sl ci 1 (e.br.map (LEl.bRow ci))]] := ((Off.new h (Nat.le_refl _) (box_sb _ _ _ _) (by simp)).set e4).made hd2; have bm2 := fm2.box; have lm2 := fm2.lt; have le2 := fe2.lt; have lx2 := fx2.lt; have hc2 : H2.color = H.color := (by rw [hd2.color]; simp); have hmd2 : Made O O2 (H.setBox jc [[pi ((n + 1 : Nat) : Int)]]) H2 := hd2.ext (ext_set2 (by simpa using lc) (by (repeat (first | exact AS.Ext.refl _ | assumption | refine AS.Ext.bump ?_ | refine AS.Ext.kill (by first | omega | (simp; omega) | simp) ?_ | refine AS.Ext.setBox (by first | omega | (simp; omega)) ?_)); done)))
    | (refine callR (xHidden _ O2 id H.color S (V ++ [⟨hE (n + 1), 5, 1⟩]) (hP (n + 1)) 4 1 hk2 (by simp; omega)) ?_; rintro _ H3 ⟨rfl, O3, hk3, hd3⟩; have fm3 := fm2.made hd3; have fx3 := fx2.made hd3; have fe3 := fe2.made hd3; have bm3 := fm3.box; have bx3 := fx3.box; have be3 := fe3.box; have lm3 := fm3.lt; have lx3 := fx3.lt; have le3 := fe3.lt; rw [LRg.row_eq] at bx3; have hc3 : H3.color = H.color := (by rw [hd3.color]; exact hc2); have i1 : ¬ jm = H3.next := (by omega); have i2 : ¬ jx = H3.next := (by omega); have i3 : ¬ H.next = H3.next := (by omega); have i4 : ¬ jm = H3.next + 1 := (by omega); have i5 : ¬ jx = H3.next + 1 := (by omega); have i6 : ¬ H.next = H3.next + 1 := (by omega); have i7 : ¬ jm = H3.next + 1 + 1 := (by omega); have i8 : ¬ jx = H3.next + 1 + 1 := (by omega); have i9 : ¬ H.next = H3.next + 1 + 1 := (by omega))
    | (refine call_frz (args' := [.agg (LEx.row H.color (xNam (hP (n + 1)) e.pos))]) ?_ (xNot_ _ H.color (xNam (hP (n + 1)) e.pos) (by rw [frzVs_color]; simp [*])) ?_; (focus (simp (maxDischargeDepth := 20) [frzLx, frzLs, frzVs, frzV, frzL, frz_nil, frz, LEx.row_mk, xNam, *] <;> rfl; done)); rintro _ Hz ⟨rfl, hz⟩; (try simp only [frzLx, frzLs, frzVs, frzV, frzL, frz_nil, frz] at hz); subst Hz)
    | (refine call_frz (args' := [.agg (LEx.row H.color (xPlc e.name e.pos))]) ?_ (xNot_ _ H.color (xPlc e.name e.pos) (by rw [frzVs_color]; simp [*])) ?_; (focus (simp (maxDischargeDepth := 20) [frzLx, frzLs, frzVs, frzV, frzL, frz_nil, frz, LEx.row_mk, xNam, *] <;> rfl; done)); rintro _ Hz ⟨rfl, hz⟩; (try simp only [frzLx, frzLs, frzVs, frzV, frzL, frz_nil, frz] at hz); subst Hz)
    | (refine call_frz (args' := [pi 6, pi e.pos, .agg (LEx.row H.color (xPlc e.name e.pos)), .agg (LEx.row H.color (xNot (xNam (hP (n + 1)) e.pos)))]) ?_ (xBoth_ _ 6 e.pos H.color (xPlc e.name e.pos) (xNot (xNam (hP (n + 1)) e.pos)) (by rw [frzVs_color]; simp [*])) ?_; (focus (simp (maxDischargeDepth := 20) [frzLx, frzLs, frzVs, frzV, frzL, frz_nil, frz, LEx.row_mk, xNam, *] <;> rfl; done)); rintro _ Hz ⟨rfl, hz⟩; (try simp only [frzLx, frzLs, frzVs, frzV, frzL, frz_nil, frz] at hz); subst Hz)
    | (refine call_frz (args' := [pi 6, pi e.pos, .agg (LEx.row H.color (xNot (xPlc e.name e.pos))), .agg (LEx.row H.color (xNam (hP (n + 1)) e.pos))]) ?_ (xBoth_ _ 6 e.pos H.color (xNot (xPlc e.name e.pos)) (xNam (hP (n + 1)) e.pos) (by rw [frzVs_color]; simp [*])) ?_; (focus (simp (maxDischargeDepth := 20) [frzLx, frzLs, frzVs, frzV, frzL, frz_nil, frz, LEx.row_mk, xNam, *] <;> rfl; done)); rintro _ Hz ⟨rfl, hz⟩; (try simp only [frzLx, frzLs, frzVs, frzV, frzL, frz_nil, frz] at hz); subst Hz)
    | (refine call_frz (args' := [pi rg.pos, .agg (LEx.row H.color (xNam (hE (n + 1)) e.pos)), .agg (LEx.row H.color (xTwo 6 e.pos (xPlc e.name e.pos) (xNot (xNam (hP (n + 1)) e.pos))))]) ?_ (xSet_ _ rg.pos H.color (xNam (hE (n + 1)) e.pos) (xTwo 6 e.pos (xPlc e.name e.pos) (xNot (xNam (hP (n + 1)) e.pos))) (by rw [frzVs_color]; simp [*])) ?_; (focus (simp (maxDischargeDepth := 20) [frzLx, frzLs, frzVs, frzV, frzL, frz_nil, frz, LEx.row_mk, xNam, *] <;> rfl; done)); rintro _ Hz ⟨rfl, hz⟩; (try simp only [frzLx, frzLs, frzVs, frzV, frzL, frz_nil, frz] at hz); subst Hz)
    | (refine call_frz (args' := [pi rg.pos, .agg (LEx.row H.color (xNam (hE (n + 1)) e.pos)), .agg (LEx.row H.color (xTwo 6 e.pos (xNot (xPlc e.name e.pos)) (xNam (hP (n + 1)) e.pos)))]) ?_ (xSet_ _ rg.pos H.color (xNam (hE (n + 1)) e.pos) (xTwo 6 e.pos (xNot (xPlc e.name e.pos)) (xNam (hP (n + 1)) e.pos)) (by rw [frzVs_color]; simp [*])) ?_; (focus (simp (maxDischargeDepth := 20) [frzLx, frzLs, frzVs, frzV, frzL, frz_nil, frz, LEx.row_mk, xNam, *] <;> rfl; done)); rintro _ Hz ⟨rfl, hz⟩; (try simp only [frzLx, frzLs, frzVs, frzV, frzL, frz_nil, frz] at hz); subst Hz)
    | (refine call_frz (args' := [pi rg.pos, .agg (LEx.row H.color (xNam (hP (n + 1)) e.pos)), .agg (LEx.row H.color (xPlc e.name e.pos))]) ?_ (xSet_ _ rg.pos H.color (xNam (hP (n + 1)) e.pos) (xPlc e.name e.pos) (by rw [frzVs_color]; simp [*])) ?_; (focus (simp (maxDischargeDepth := 20) [frzLx, frzLs, frzVs, frzV, frzL, frz_nil, frz, LEx.row_mk, xNam, *] <;> rfl; done)); rintro _ Hz ⟨rfl, hz⟩; (try simp only [frzLx, frzLs, frzVs, frzV, frzL, frz_nil, frz] at hz); subst Hz)
    | (refine callR (xPut H4 O4 id H.color (S ++ [_]) (V ++ [⟨hE (n + 1), 5, 1⟩] ++ [⟨hP (n + 1), 4, 1⟩]) _ hk4 (by simp; omega)) ?_; rintro _ H5 ⟨rfl, O5, hk5, hd5⟩; have ln4 : H3.next + 1 + 1 + 1 ≤ H4.next := (by have := hd4.next; simpa using this); have of4 : ∀ j, ¬ O3 j → j < H3.next + 1 + 1 + 1 → ¬ O4 j := (fun j h1 h2 ho => by rcases hd4.own j ho with h3 | h3; (exact h1 h3); (simp at h3; omega)); have bm5 := hd5.box (jm) (by omega) (of4 _ (fm3.off) (by omega)); simp (maxDischargeDepth := 20) [*] at bm5; have bx5 := hd5.box (jx) (by omega) (of4 _ (fx3.off) (by omega)); simp (maxDischargeDepth := 20) [*] at bx5; have be5 := hd5.box (H.next) (by omega) (of4 _ (fe3.off) (by omega)); simp (maxDischargeDepth := 20) [*] at be5; have ba5 := hd5.box (H3.next) (by omega) (of4 _ (fun ho => by have := hk3.olt ho; omega) (by omega)); simp (maxDischargeDepth := 20) [*] at ba5; have bt5 := hd5.box (H3.next + 1) (by omega) (of4 _ (fun ho => by have := hk3.olt ho; omega) (by omega)); simp (maxDischargeDepth := 20) [*] at bt5; have bq5 := hd5.box (H3.next + 1 + 1) (by omega) (of4 _ (fun ho => by have := hk3.olt ho; omega) (by omega)); simp (maxDischargeDepth := 20) [*] at bq5; have hc5 : H5.color = H.color := (by rw [hd5.color]; simp [*]))
    | (refine callR (xPut _ O3 id H.color S (V ++ [⟨hE (n + 1), 5, 1⟩] ++ [⟨hP (n + 1), 4, 1⟩]) _ (hk3.ext ?_) (by omega)) ?_; (focus ((repeat (first | exact AS.Ext.refl _ | assumption | refine AS.Ext.bump ?_ | refine AS.Ext.kill (by first | omega | (simp; omega) | simp) ?_ | refine AS.Ext.setBox (by first | omega | (simp; omega)) ?_)); done)); rintro _ H4 ⟨rfl, O4, hk4, hd4⟩; have bm4 := hd4.box (jm) (by simp; try omega) (fm3.off); simp (maxDischargeDepth := 20) [*] at bm4; have bx4 := hd4.box (jx) (by simp; try omega) (fx3.off); simp (maxDischargeDepth := 20) [*] at bx4; have be4 := hd4.box (H.next) (by simp; try omega) (fe3.off); simp (maxDischargeDepth := 20) [*] at be4; have ba4 := hd4.box (H3.next) (by simp; try omega) (fun ho => by have := hk3.olt ho; omega); simp (maxDischargeDepth := 20) [*] at ba4; have bt4 := hd4.box (H3.next + 1) (by simp; try omega) (fun ho => by have := hk3.olt ho; omega); simp (maxDischargeDepth := 20) [*] at bt4; have bq4 := hd4.box (H3.next + 1 + 1) (by simp; try omega) (fun ho => by have := hk3.olt ho; omega); simp (maxDischargeDepth := 20) [*] at bq4; have hc4 : H4.color = H.color := (by rw [hd4.color]; simp [*]))
    | refine And.intro ?_ ?_
    | (refine callR (itoaIs _ (n + 1) (by omega)) ?_; rintro _ Hz ⟨rfl, hz⟩; subst Hz)
    | (refine callR (xName_ _ _ _ hn) ?_; rintro _ Hz ⟨rfl, hz⟩; subst Hz)
    | refine Gs.mk (fun g => ?_) (fun g => ?_) <;> (try simp only [nm] at g) <;> try (exfalso; first | contradiction | omega)
    | refine Gr.mk (fun g => ?_) (fun g => ?_) <;> (try simp only [nm] at g) <;> try (exfalso; first | contradiction | omega)
    | (refine Run.of ?_; simp (maxSteps := 1000000) (disch := first | omega | assumption | (simp; done) | fail) [*, box_sb, frzVs_color, color_kill, LEx.len, LEx.take14, LSt.len, LSt.take14, LEx.drop14, app_size, catIf, wk_two, aStep_eq])
  all_goals (refine Kt.mk ?_; refine owesO_none (.inl rfl) rfl ⟨rfl, O5, ?_, ?_⟩)
  all_goals first
    | (simpa [edgeS, edgeV, *] using hk5)
    | (exact hmd2.trans (hd3.trans ((hd4.ext (by (repeat (first | exact AS.Ext.refl _ | assumption | refine AS.Ext.bump ?_ | refine AS.Ext.kill (by first | omega | (simp; omega) | simp) ?_ | refine AS.Ext.setBox (by first | omega | (simp; omega)) ?_)); done)).trans hd5)))
    | fail
end
end Go.Abs
namespace Go.Abs
open Go.Proofs
set_option autoImplicit false
set_option linter.all false
set_option maxRecDepth 100000
set_option maxHeartbeats 4000000
attribute [local simp ↓] wanted_at hbind_some
attribute [local simp] Gs_true Gs_false gcond_Gr Gr_true Gr_false abox frame0 int_beq int_bne aload astore partOf Keeps Same splice aUn aFieldAddr aField aBin aBinV aConvert aExtract aLen aBuild aBuild.go aalloc AS.Ext.refl AS.Ext.bump AS.Ext.setBox
namespace LEl
mutual
theorem con_n (a : Int) (n : Nat) : ∀ e : LEl, (con a n e).2 = n + (edg e).length
  | mk o p nm br => by
    have h := besB_n a n br
    rw [con, edg]
    by_cases h2 : o = 2
    · have e3 : ¬ (o = 3 ∨ o = 4) := by omega
      have e5 : ¬ o = 5 := by omega
      simp [h2]
    · by_cases h3 : o = 3 ∨ o = 4
      · simp [h2, h3]
      · by_cases h5 : o = 5
        · simp [h5, h]
        · simp [h2, h3, h5]
theorem besB_n (a : Int) (n : Nat) : ∀ b : List (List LEl), (besB a n b).2 = n + (edgB b).length
  | [] => by simp [besB, edgB]
  | b :: bs => by
    have h1 := conL_n a n b
    rw [besB, edgB, besF_n a _ _ bs, h1, List.length_append]; omega
theorem besF_n (a : Int) (x : LEx) (n : Nat) : ∀ b : List (List LEl), (besF a x n b).2 = n + (edgB b).length
  | [] => by simp [besF, edgB]
  | b :: bs => by
    have h1 := conL_n a n b
    rw [besF, edgB, besF_n a _ _ bs, h1, List.length_append]; omega
theorem conL_n (a : Int) (n : Nat) : ∀ l : List LEl, (conL a n l).2 = n + (edgL l).length
  | [] => by simp [conL, edgL]
  | e :: es => by
    have h1 := con_n a n e
    rw [conL, edgL, conF_n a _ _ es, h1, List.length_append]; omega
theorem conF_n (a : Int) (x : LEx) (n : Nat) : ∀ l : List LEl, (conF a x n l).2 = n + (edgL l).length
  | [] => by simp [conF, edgL]
  | e :: es => by
    have h1 := con_n a n e
    rw [conF, edgL, conF_n a _ _ es, h1, List.length_append]; omega
end
end LEl
/-- What a contact, a row, rows side by side come to. -/
def ConC (e : LEl) : Prop := e.nm → ∀ (H : AS) (c : Nat) (a : Int) (jn n : Nat), c < 2 → H.box jn = some [[pi n]] → n + LEl.size e ≤ 1073741824 → ACalls Tryz.prog 92 [.agg (e.row c), pi a, .func 56 [.ptr jn 1 0 0]] H fun q H' => q = .agg ((LEl.con a n e).1.row H.color) ∧ H' = H.setBox jn [[pi ((LEl.con a n e).2 : Nat)]]
def RowC (l : List LEl) : Prop := LEl.nmL l → ∀ (H : AS) (c : Nat) (a : Int) (jn n : Nat), c < 2 → H.box jn = some [[pi n]] → n + LEl.sizeL l ≤ 1073741824 → ACalls Tryz.prog 55 [PV.sl c 4 (l.map (LEl.row c)), pi a, .func 56 [.ptr jn 1 0 0]] H fun q H' => q = .agg ((LEl.conL a n l).1.row H.color) ∧ H' = H.setBox jn [[pi ((LEl.conL a n l).2 : Nat)]]
def BesC (b : List (List LEl)) : Prop := LEl.nmB b → ∀ (H : AS) (c : Nat) (a : Int) (jn n : Nat), c < 2 → H.box jn = some [[pi n]] → n + LEl.sizeB b ≤ 1073741824 → ACalls Tryz.prog 120 [PV.sl c 1 (b.map (LEl.bRow c)), pi a, .func 56 [.ptr jn 1 0 0]] H fun q H' => q = .agg ((LEl.besB a n b).1.row H.color) ∧ H' = H.setBox jn [[pi ((LEl.besB a n b).2 : Nat)]]
theorem xEdge (H : AS) (jn n : Nat) (hb : H.box jn = some [[pi n]]) (hn : n < 1073741824) : ACalls Tryz.prog 56 [.ptr jn 1 0 0] H fun q H' => q = ps (hE (n + 1)) ∧ H' = H.setBox jn [[pi ((n + 1 : Nat) : Int)]] := by
  refine ACalls_intro Tryz.func56 rfl (by kernel_rfl) (by simp) fun hwf hbel => ?_
  have hw : IntKind.i64.wrap ((n : Int) + 1) = ((n + 1 : Nat) : Int) := by rw [wrap_i64 (by omega) (by omega)]; omega
  have hsz := hid_size [] (n + 1) (by omega)
  simp only [List.length_nil, Nat.zero_add] at hsz
  have hE1 : (⟨#[95, 69]⟩ : ByteArray) ++ hid [] (n + 1) = hE (n + 1) := hid_app [95, 69] (n + 1)
  have hid := (hwf.box _ _ hb).1
  repeat' first
    | refine T_seq ?_
    | refine T_rgn ?_
    | refine T_cd ?_
    | refine T_sk ?_
    | refine T_rt ?_
    | refine T_block ?_
    | refine T_ex ?_
    | refine Kt_then ?_
    | refine Kt_block ?_
    | refine Kr_then ?_
    | refine Kr_block ?_
    | refine Ke_here ?_
    | refine Ke_then ?_
    | refine Hid.mk ?_
    | (refine callR (itoaIs _ (n + 1) (by omega)) ?_; rintro _ Hz ⟨rfl, hz⟩; subst Hz)
    | refine Gs.mk (fun g => ?_) (fun g => ?_) <;> (try simp only [nm] at g) <;> try (exfalso; first | contradiction | omega)
    | refine Gr.mk (fun g => ?_) (fun g => ?_) <;> (try simp only [nm] at g) <;> try (exfalso; first | contradiction | omega)
    | (refine Run.of ?_; simp (maxSteps := 1000000) (disch := first | omega | assumption | (simp; done) | fail) [*, box_sb, app_size, catIf])
  all_goals (refine Kx.mk ?_; refine owes_at (l := [.tmp 1]) (H1 := H.setBox jn [[pi ((n + 1 : Nat) : Int)]]) (.inr rfl) (wf_set hwf hb (by simp)) (by simp) rfl ?_ ?_)
  all_goals first
    | (exact AS.Ext.refl _)
    | (simp (maxDischargeDepth := 20) [resP, packed, plain1_agg, aload, partOf, *]; done)
    | fail
theorem contact_of (e : LEl) (ih : BesC e.br) : ConC e := by
  intro hnm H c a jn n hc hb hn
  have hnn : e.name.size ≤ 262145 := by cases e; exact hnm.1
  have hnb : LEl.nmB e.br := by cases e; exact hnm.2
  have hsz : LEl.sizeB e.br + 1 = LEl.size e := (LEl.size_eq e).symm
  have hcon : LEl.con a n e = if e.op = 2 then (xNot (xPlc e.name e.pos), n) else if e.op = 3 ∨ e.op = 4 then (xNam (hE (n + 1)) e.pos, n + 1) else if e.op = 5 then LEl.besB a n e.br else (xPlc e.name e.pos, n) := by cases e; rw [LEl.con]; rfl
  rw [LEl.row_eq]
  refine ACalls_intro Tryz.func92 rfl (by kernel_rfl) (by simp) fun hwf hbel => ?_
  have hid := (hwf.box _ _ hb).1
  have e1 : ¬ jn = H.next := by omega
  have e2 : ¬ jn = H.next + 1 := by omega
  have e3 : ¬ H.next = jn := by omega
  have e4 : ¬ H.next + 1 = jn := by omega
  repeat' first
    | refine T_seq ?_
    | refine T_rgn ?_
    | refine T_cd ?_
    | refine T_sk ?_
    | refine T_rt ?_
    | refine T_block ?_
    | refine T_ex ?_
    | refine Kt_then ?_
    | refine Kt_block ?_
    | refine Kr_then ?_
    | refine Kr_block ?_
    | refine Ke_here ?_
    | refine Ke_then ?_
    | refine Hid.mk ?_
    | refine T_dr (id := 6) (fun j => j = H.next) [5] (.free 0 (.free 1 (.free 2 (.sole 3 (.free 4 (.sole 5 .done)))))) mix ?_
    | refine And.intro (fun _ h1 h2 => absurd h2 h1) ?_
    | (refine callR (xName_ _ _ _ hnn) ?_; rintro _ Hz ⟨rfl, hz⟩; subst Hz)
    | (refine callR (xNot_ _ H.color (xPlc e.name e.pos) (by simp)) ?_; rintro _ Hz ⟨rfl, hz⟩; subst Hz)
    | (refine callR (xEdge _ jn n (by simp [*]) (by omega)) ?_; rintro _ Hz ⟨rfl, hz⟩; subst Hz)
    | (refine callR (ih hnb _ c a jn n hc (by simp [*]) (by omega)) ?_; rintro _ Hz ⟨rfl, hz⟩; subst Hz)
    | refine Gs.mk (fun g => ?_) (fun g => ?_) <;> (try simp only [nm] at g) <;> try (exfalso; first | contradiction | omega)
    | refine Gr.mk (fun g => ?_) (fun g => ?_) <;> (try simp only [nm] at g) <;> try (exfalso; first | contradiction | omega)
    | (refine Run.of ?_; simp (maxSteps := 1000000) (disch := first | omega | assumption | (simp; done) | fail) [*, box_sb, LEx.len, LEx.take14, LEx.drop14])
  all_goals (refine Kx.mk ?_; refine owes_fz (H1 := H.setBox jn [[pi (((LEl.con a n e).2 : Nat) : Int)]]) [_] (l := [.cell 6 121]) (.inr rfl) (wf_set hwf hb (by simp)) (by simp) rfl ?_ ?_ ⟨rfl, ?_⟩ <;> first | (exact below_agg1 (LEx.row_below _ _ _)) | (simp [hcon, *]; done) | (simp (maxDischargeDepth := 20) [resP, packed, aload, partOf, frzVs, frzV, frzLx, frzL, frz_nil, frz, LEx.len, LEx.take14, hcon, *]; refine ExtO.to ?_ (by omega) (by simp [*]); (repeat (first | assumption | exact ExtO.refl _ _ | refine ExtO.bump ?_ | refine ExtO.setId ?_ | refine ExtO.setBox (by first | omega | (simp; omega)) ?_)); done) | (simp (maxDischargeDepth := 20) [resP, packed, aload, partOf, frzVs, frzV, frzL, frz_nil, frz, LEx.row_mk, xNam, hcon, *]; refine ExtO.to ?_ (by omega) (by simp [*]); (repeat (first | assumption | exact ExtO.refl _ _ | refine ExtO.bump ?_ | refine ExtO.setId ?_ | refine ExtO.setBox (by first | omega | (simp; omega)) ?_)); done) | fail)
end Go.Abs
namespace Go.Abs
open Go.Proofs
set_option autoImplicit false
set_option linter.all false
set_option maxRecDepth 100000
set_option maxHeartbeats 40000000
section
set_option maxHeartbeats 4000000
attribute [local simp ↓] wanted_at hbind_some
attribute [local simp] Gs_true Gs_false gcond_Gr Gr_true Gr_false abox frame0 int_beq int_bne aload astore partOf Keeps Same splice aUn aFieldAddr aField aBin aBinV aConvert aExtract aLen aBuild aBuild.go aalloc AS.Ext.refl AS.Ext.bump AS.Ext.setBox
theorem LEl.len (c : Nat) (e : LEl) : (e.row c).length = 4 := by rw [LEl.row_eq]; rfl
theorem LEl.take4 (c : Nat) (e : LEl) : List.take 4 (e.row c) = e.row c := List.take_of_length_le (by simp [LEl.len])
theorem LEl.drop4 (c : Nat) (e : LEl) : List.drop 4 (e.row c) = [] := List.drop_eq_nil_of_le (by simp [LEl.len])
theorem idx60z (c : Nat) (x : List PV) (l : List (List PV)) : aIndexAddr Tryz.prog 60 (PV.sl c 4 (x :: l)) (pi 0) = some (.rptr c x) := by
  unfold aIndexAddr; rw [under60]; simp [PV.sl, aindex]
theorem cut60 (c : Nat) (x : List PV) (l : List (List PV)) (hc : c < 2) : aCutOp Tryz.prog 60 (PV.sl c 4 (x :: l)) (some (pi 1)) none = some (PV.sl c 4 l) := by
  simp only [aCutOp, cutOk, under60, aBound, acut, PV.sl, Tryz.sz72, Option.bind_some]
  simp [acut, PV.sl, hc]; omega
theorem idx70z (c : Nat) (x : List PV) (l : List (List PV)) : aIndexAddr Tryz.prog 70 (PV.sl c 1 (x :: l)) (pi 0) = some (.rptr c x) := by
  unfold aIndexAddr; rw [under70]; simp [PV.sl, aindex]
theorem cut70 (c : Nat) (x : List PV) (l : List (List PV)) (hc : c < 2) : aCutOp Tryz.prog 70 (PV.sl c 1 (x :: l)) (some (pi 1)) none = some (PV.sl c 1 l) := by
  simp only [aCutOp, cutOk, under70, aBound, acut, PV.sl, Tryz.sz60, Option.bind_some]
  simp [acut, PV.sl, hc]; omega
theorem drop_nth {α : Type} [Inhabited α] {l : List α} {i : Nat} (h : i < l.length) : l.drop i = nth l (i : Int) :: l.drop (i + 1) := by rw [nth_get h, List.drop_eq_getElem_cons h]
theorem mem_nth {α : Type} [Inhabited α] {l : List α} {i : Nat} (h : i < l.length) : nth l (i : Int) ∈ l := by rw [nth_get h]; exact List.getElem_mem h
theorem nmL_mem : ∀ {l : List LEl} {e : LEl}, LEl.nmL l → e ∈ l → e.nm
  | x :: l, e, h, he => by
    rcases List.mem_cons.1 he with rfl | he
    · exact h.1
    · exact nmL_mem h.2 he
theorem nmB_mem : ∀ {l : List (List LEl)} {e : List LEl}, LEl.nmB l → e ∈ l → LEl.nmL e
  | x :: l, e, h, he => by
    rcases List.mem_cons.1 he with rfl | he
    · exact h.1
    · exact nmB_mem h.2 he
theorem conF_cons (a : Int) (x : LEx) (n : Nat) (e : LEl) (l : List LEl) : LEl.conF a x n (e :: l) = LEl.conF a (xTwo 6 a x (LEl.con a n e).1) (LEl.con a n e).2 l := by rw [LEl.conF]
theorem besF_cons (a : Int) (x : LEx) (n : Nat) (e : List LEl) (l : List (List LEl)) : LEl.besF a x n (e :: l) = LEl.besF a (xTwo 7 a x (LEl.conL a n e).1) (LEl.conL a n e).2 l := by rw [LEl.besF]
theorem con_le (a : Int) (n : Nat) (e : LEl) : (LEl.con a n e).2 ≤ n + LEl.size e := by rw [LEl.con_n]; have := LEl.edg_size e; omega
theorem conL_le (a : Int) (n : Nat) (l : List LEl) : (LEl.conL a n l).2 ≤ n + LEl.sizeL l := by rw [LEl.conL_n]; have := LEl.edgL_size l; omega
theorem row_of (l : List (LEl)) (ih : ∀ e ∈ l, ConC e) : RowC l := by
  intro hnm H c a jn n hc hb hn
  refine ACalls_intro Tryz.func55 rfl (by kernel_rfl) (by simp) fun hwf hbel => ?_
  have hid := (hwf.box _ _ hb).1
  have e1 : ¬ jn = H.next := by omega
  have e2 : ¬ jn = H.next + 1 := by omega
  have e3 : ¬ H.next = jn := by omega
  have e4 : ¬ H.next + 1 = jn := by omega
  rcases l with _ | ⟨x, xs⟩
  all_goals try simp only [List.map_cons, List.map_nil]
  all_goals (
    repeat' first
      | refine T_seq ?_
      | refine T_rgn ?_
      | refine T_cd ?_
      | refine T_sk ?_
      | refine T_rt ?_
      | refine T_block ?_
      | refine T_ex ?_
      | refine Kt_then ?_
      | refine Kt_block ?_
      | refine Kr_then ?_
      | refine Kr_block ?_
      | refine Ke_here ?_
      | refine Ke_then ?_
      | refine Hid.mk ?_
      | (refine callR (xTruth_ _ _ _) ?_; rintro _ Hz ⟨rfl, hz⟩; subst Hz)
      | (refine callR (ih x (by simp) hnm.1 _ c a jn n hc (by simp [*]) (by simp only [LEl.sizeL] at hn; omega)) ?_; rintro _ Hz ⟨rfl, hz⟩; subst Hz)
      | refine Gs.mk (fun g => ?_) (fun g => ?_) <;> (try simp only [nm] at g) <;> try (exfalso; first | contradiction | omega)
      | refine Gr.mk (fun g => ?_) (fun g => ?_) <;> (try simp only [nm] at g) <;> try (exfalso; first | contradiction | omega)
      | (refine Run.of ?_; simp (maxSteps := 1000000) (disch := first | omega | assumption | (simp; done) | fail) [*, box_sb, LEx.len, LEx.take14, LEx.drop14, LEl.len, LEl.take4, LEl.drop4, lenNilS, idx60z, idx70z, cut60, cut70, idx60, idx70, wrap_nn, wrap_i64]))
  · (refine Kx.mk ?_; refine owes_fz (H1 := H.setBox jn [[pi (((LEl.conL a n []).2 : Nat) : Int)]]) [_] (l := [.cell 6 121]) (.inr rfl) (wf_set hwf hb (by simp)) (by simp) rfl ?_ ?_ ⟨rfl, ?_⟩ <;> first | (exact below_agg1 (LEx.row_below _ _ _)) | (simp [LEl.conL, *]; done) | (simp (maxDischargeDepth := 20) [resP, packed, aload, partOf, frzVs, frzV, frzLx, frzL, frz_nil, frz, LEx.len, LEx.take14, LEl.conL, *]; refine ExtO.to ?_ (by omega) (by simp [*]); (repeat (first | assumption | exact ExtO.refl _ _ | refine ExtO.bump ?_ | refine ExtO.setId ?_ | refine ExtO.setBox (by first | omega | (simp; omega)) ?_)); done) | (simp (maxDischargeDepth := 20) [resP, packed, aload, partOf, frzVs, frzV, frzL, frz_nil, frz, LEx.row_mk, xNam, LEl.conL, *]; refine ExtO.to ?_ (by omega) (by simp [*]); (repeat (first | assumption | exact ExtO.refl _ _ | refine ExtO.bump ?_ | refine ExtO.setId ?_ | refine ExtO.setBox (by first | omega | (simp; omega)) ?_)); done) | fail)
  have hle := con_le a n x
  have hsz : LEl.sizeL (x :: xs) = LEl.size x + LEl.sizeL xs := by simp [LEl.sizeL]
  have hfold : LEl.conF a (LEl.con a n x).1 (LEl.con a n x).2 xs = LEl.conL a n (x :: xs) := by rw [LEl.conL]
  refine T_lp (fun k F H' => ∃ (i : Nat) (y : LEx) (m : Nat), k = xs.length - i ∧ F 1 = pi a ∧ F 2 = .func 56 [.ptr jn 1 0 0] ∧ F 6 = .ptr H.next 1 0 0 ∧ F 7 = .ptr (H.next + 1) 1 0 0 ∧ F 22 = PV.sl c 4 (xs.map (LEl.row c)) ∧ F 23 = pi xs.length ∧ F 24 = pi i ∧ i ≤ xs.length ∧ H'.box jn = some [[pi m]] ∧ H'.box H.next = some [[pi 0, pi 0, ps ⟨#[]⟩, ps ⟨#[]⟩, k8 0, k64 0, ps ⟨#[]⟩, .nil, .nil, k8 0, pi 0, pi 0, pi 0, pi 0]] ∧ H'.box (H.next + 1) = some [y.row H.color] ∧ ExtO jn H H' ∧ H.next + 1 < H'.next ∧ LEl.conF a y m (xs.drop i) = LEl.conL a n (x :: xs) ∧ m + LEl.sizeL (xs.drop i) ≤ n + LEl.sizeL (x :: xs)) _ ⟨0, (LEl.con a n x).1, (LEl.con a n x).2, rfl, ?_⟩ ?_
  · (repeat' apply And.intro) <;> first | (simp [*]; done) | ((repeat (first | assumption | exact ExtO.refl _ _ | refine ExtO.bump ?_ | refine ExtO.setId ?_ | refine ExtO.setBox (by first | omega | (simp; omega)) ?_)); done) | (simp; omega) | (simp [hsz]; omega) | fail
  rintro k F H1 ⟨i, y, m, rfl, g1, g2, g6, g7, g22, g23, g24, hi, bj, bz, by7, hx, hl1, hfd, hms⟩
  have hc1 : H1.color = H.color := hx.color
  have f1 : ¬ jn = H1.next := by omega
  have f2 : ¬ H.next = H1.next := by omega
  have f3 : ¬ H.next + 1 = H1.next := by omega
  have f4 : ¬ H1.next = jn := by omega
  have hxl := LEl.length_le_size xs
  repeat' first
    | refine T_seq ?_
    | refine T_rgn ?_
    | refine T_cd ?_
    | refine T_sk ?_
    | refine T_rt ?_
    | refine T_block ?_
    | refine T_ex ?_
    | refine Kt_then ?_
    | refine Kt_block ?_
    | refine Kr_then ?_
    | refine Kr_block ?_
    | refine Kr_loop ?_
    | refine Ke_here ?_
    | refine Ke_then ?_
    | refine Ke_loop ?_
    | refine Ke_block ?_
    | refine Hid.mk ?_
    | refine T_dr (id := 7) (fun j => j = H.next + 1 ∨ j = H1.next) [7] (.free 0 (.free 1 (.free 2 (.free 3 (.free 4 (.sole 5 (.sole 6 (.sole 7 .done)))))))) mix ?_
    | refine And.intro (fun _ h1 h2 => absurd h2 h1) ?_
    | (refine callR (xBoth_ _ 6 a H.color y (LEl.con a m (nth xs (i : Int))).1 (by simp [*])) ?_; rintro _ Hz ⟨rfl, hz⟩; subst Hz)
    | (refine callR (ih (nth xs (i : Int)) (List.mem_cons_of_mem _ (mem_nth (by assumption))) (nmL_mem hnm (List.mem_cons_of_mem _ (mem_nth (by assumption)))) _ c a jn m hc (by simp [*]) (by rw [drop_nth (by assumption)] at hms; simp only [LEl.sizeL] at hms hn; omega)) ?_; rintro _ Hz ⟨rfl, hz⟩; subst Hz)
    | refine Gs.mk (fun g => ?_) (fun g => ?_) <;> (try simp only [nm] at g) <;> try (exfalso; first | contradiction | omega)
    | refine Gr.mk (fun g => ?_) (fun g => ?_) <;> (try simp only [nm] at g) <;> try (exfalso; first | contradiction | omega)
    | (refine Run.of ?_; simp (maxSteps := 1000000) (disch := first | omega | assumption | (simp; done) | fail) [*, box_sb, LEx.len, LEx.take14, LEx.drop14, LEl.len, LEl.take4, LEl.drop4, lenNilS, idx60z, idx70z, cut60, cut70, idx60, idx70, wrap_nn, wrap_i64])
  all_goals first
    | (refine Kt_loop ⟨_, ?_, i + 1, xTwo 6 a y (LEl.con a m (nth xs (i : Int))).1, (LEl.con a m (nth xs (i : Int))).2, rfl, ?_⟩ <;> (repeat' apply And.intro) <;> first | omega | (simp [*]; done) | ((repeat (first | assumption | exact ExtO.refl _ _ | refine ExtO.bump ?_ | refine ExtO.setId ?_ | refine ExtO.setBox (by first | omega | (simp; omega)) ?_)); done) | (simp; omega) | (rw [drop_nth (by assumption), conF_cons] at hfd; exact hfd) | (rw [drop_nth (by assumption)] at hms; have := con_le a m (nth xs (i : Int)); simp only [LEl.sizeL] at hms hn ⊢; omega) | fail)
    | (have hii : i = xs.length := (by omega); subst hii; simp only [List.drop_length, LEl.conF] at hfd; have hq1 : (LEl.conL a n (x :: xs)).1 = y := (by rw [← hfd]); have hq2 : (LEl.conL a n (x :: xs)).2 = m := (by rw [← hfd]); clear hfd; (refine Kx.mk ?_; refine owes_fz (H1 := H.setBox jn [[pi (((LEl.conL a n (x :: xs)).2 : Nat) : Int)]]) [_] (l := [.cell 6 121]) (.inr rfl) (wf_set hwf hb (by simp)) (by simp) rfl ?_ ?_ ⟨rfl, ?_⟩ <;> first | (exact below_agg1 (LEx.row_below _ _ _)) | (simp [hq1, hq2, *]; done) | (simp (maxDischargeDepth := 20) [resP, packed, aload, partOf, frzVs, frzV, frzLx, frzL, frz_nil, frz, LEx.len, LEx.take14, hq1, hq2, *]; refine ExtO.to ?_ (by omega) (by simp [*]); (repeat (first | assumption | exact ExtO.refl _ _ | refine ExtO.bump ?_ | refine ExtO.setId ?_ | refine ExtO.setBox (by first | omega | (simp; omega)) ?_)); done) | (simp (maxDischargeDepth := 20) [resP, packed, aload, partOf, frzVs, frzV, frzL, frz_nil, frz, LEx.row_mk, xNam, hq1, hq2, *]; refine ExtO.to ?_ (by omega) (by simp [*]); (repeat (first | assumption | exact ExtO.refl _ _ | refine ExtO.bump ?_ | refine ExtO.setId ?_ | refine ExtO.setBox (by first | omega | (simp; omega)) ?_)); done) | fail))
    | fail
theorem bes_of (l : List (List LEl)) (ih : ∀ e ∈ l, RowC e) : BesC l := by
  intro hnm H c a jn n hc hb hn
  refine ACalls_intro Tryz.func120 rfl (by kernel_rfl) (by simp) fun hwf hbel => ?_
  have hid := (hwf.box _ _ hb).1
  have e1 : ¬ jn = H.next := by omega
  have e2 : ¬ jn = H.next + 1 := by omega
  have e3 : ¬ H.next = jn := by omega
  have e4 : ¬ H.next + 1 = jn := by omega
  rcases l with _ | ⟨x, xs⟩
  all_goals try simp only [List.map_cons, List.map_nil, LEl.bRow]
  all_goals (
    repeat' first
      | refine T_seq ?_
      | refine T_rgn ?_
      | refine T_cd ?_
      | refine T_sk ?_
      | refine T_rt ?_
      | refine T_block ?_
      | refine T_ex ?_
      | refine Kt_then ?_
      | refine Kt_block ?_
      | refine Kr_then ?_
      | refine Kr_block ?_
      | refine Ke_here ?_
      | refine Ke_then ?_
      | refine Hid.mk ?_
      | (refine callR (xTruth_ _ _ _) ?_; rintro _ Hz ⟨rfl, hz⟩; subst Hz)
      | (refine callR (ih x (by simp) hnm.1 _ c a jn n hc (by simp [*]) (by simp only [LEl.sizeB] at hn; omega)) ?_; rintro _ Hz ⟨rfl, hz⟩; subst Hz)
      | refine Gs.mk (fun g => ?_) (fun g => ?_) <;> (try simp only [nm] at g) <;> try (exfalso; first | contradiction | omega)
      | refine Gr.mk (fun g => ?_) (fun g => ?_) <;> (try simp only [nm] at g) <;> try (exfalso; first | contradiction | omega)
      | (refine Run.of ?_; simp (maxSteps := 1000000) (disch := first | omega | assumption | (simp; done) | fail) [*, box_sb, LEx.len, LEx.take14, LEx.drop14, LEl.len, LEl.take4, LEl.drop4, lenNilS, idx60z, idx70z, cut60, cut70, idx60, idx70, wrap_nn, wrap_i64, LEl.bRow]))
  · (refine Kx.mk ?_; refine owes_fz (H1 := H.setBox jn [[pi (((LEl.besB a n []).2 : Nat) : Int)]]) [_] (l := [.cell 6 121]) (.inr rfl) (wf_set hwf hb (by simp)) (by simp) rfl ?_ ?_ ⟨rfl, ?_⟩ <;> first | (exact below_agg1 (LEx.row_below _ _ _)) | (simp [LEl.besB, *]; done) | (simp (maxDischargeDepth := 20) [resP, packed, aload, partOf, frzVs, frzV, frzLx, frzL, frz_nil, frz, LEx.len, LEx.take14, LEl.besB, *]; refine ExtO.to ?_ (by omega) (by simp [*]); (repeat (first | assumption | exact ExtO.refl _ _ | refine ExtO.bump ?_ | refine ExtO.setId ?_ | refine ExtO.setBox (by first | omega | (simp; omega)) ?_)); done) | (simp (maxDischargeDepth := 20) [resP, packed, aload, partOf, frzVs, frzV, frzL, frz_nil, frz, LEx.row_mk, xNam, LEl.besB, *]; refine ExtO.to ?_ (by omega) (by simp [*]); (repeat (first | assumption | exact ExtO.refl _ _ | refine ExtO.bump ?_ | refine ExtO.setId ?_ | refine ExtO.setBox (by first | omega | (simp; omega)) ?_)); done) | fail)
  have hle := conL_le a n x
  have hsz : LEl.sizeB (x :: xs) = LEl.sizeL x + LEl.sizeB xs + 1 := by simp [LEl.sizeB]
  have hfold : LEl.besF a (LEl.conL a n x).1 (LEl.conL a n x).2 xs = LEl.besB a n (x :: xs) := by rw [LEl.besB]
  refine T_lp (fun k F H' => ∃ (i : Nat) (y : LEx) (m : Nat), k = xs.length - i ∧ F 1 = pi a ∧ F 2 = .func 56 [.ptr jn 1 0 0] ∧ F 6 = .ptr H.next 1 0 0 ∧ F 7 = .ptr (H.next + 1) 1 0 0 ∧ F 22 = PV.sl c 1 (xs.map (LEl.bRow c)) ∧ F 23 = pi xs.length ∧ F 24 = pi i ∧ i ≤ xs.length ∧ H'.box jn = some [[pi m]] ∧ H'.box H.next = some [[pi 0, pi 0, ps ⟨#[]⟩, ps ⟨#[]⟩, k8 0, k64 0, ps ⟨#[]⟩, .nil, .nil, k8 0, pi 0, pi 0, pi 0, pi 0]] ∧ H'.box (H.next + 1) = some [y.row H.color] ∧ ExtO jn H H' ∧ H.next + 1 < H'.next ∧ LEl.besF a y m (xs.drop i) = LEl.besB a n (x :: xs) ∧ m + LEl.sizeB (xs.drop i) ≤ n + LEl.sizeB (x :: xs)) _ ⟨0, (LEl.conL a n x).1, (LEl.conL a n x).2, rfl, ?_⟩ ?_
  · (repeat' apply And.intro) <;> first | (simp [*]; done) | ((repeat (first | assumption | exact ExtO.refl _ _ | refine ExtO.bump ?_ | refine ExtO.setId ?_ | refine ExtO.setBox (by first | omega | (simp; omega)) ?_)); done) | (simp; omega) | (simp [hsz]; omega) | fail
  rintro k F H1 ⟨i, y, m, rfl, g1, g2, g6, g7, g22, g23, g24, hi, bj, bz, by7, hx, hl1, hfd, hms⟩
  have hc1 : H1.color = H.color := hx.color
  have f1 : ¬ jn = H1.next := by omega
  have f2 : ¬ H.next = H1.next := by omega
  have f3 : ¬ H.next + 1 = H1.next := by omega
  have f4 : ¬ H1.next = jn := by omega
  have hxl := LEl.lengthB_le xs
  repeat' first
    | refine T_seq ?_
    | refine T_rgn ?_
    | refine T_cd ?_
    | refine T_sk ?_
    | refine T_rt ?_
    | refine T_block ?_
    | refine T_ex ?_
    | refine Kt_then ?_
    | refine Kt_block ?_
    | refine Kr_then ?_
    | refine Kr_block ?_
    | refine Kr_loop ?_
    | refine Ke_here ?_
    | refine Ke_then ?_
    | refine Ke_loop ?_
    | refine Ke_block ?_
    | refine Hid.mk ?_
    | refine T_dr (id := 7) (fun j => j = H.next + 1) [7] (.free 0 (.free 1 (.free 2 (.free 3 (.free 4 (.sole 5 (.sole 6 (.sole 7 .done)))))))) mix ?_
    | refine And.intro (fun _ h1 h2 => absurd h2 h1) ?_
    | (refine callR (xBoth_ _ 7 a H.color y (LEl.conL a m (nth xs (i : Int))).1 (by simp [*])) ?_; rintro _ Hz ⟨rfl, hz⟩; subst Hz)
    | (refine callR (ih (nth xs (i : Int)) (List.mem_cons_of_mem _ (mem_nth (by assumption))) (nmB_mem hnm (List.mem_cons_of_mem _ (mem_nth (by assumption)))) _ c a jn m hc (by simp [*]) (by rw [drop_nth (by assumption)] at hms; simp only [LEl.sizeB] at hms hn; omega)) ?_; rintro _ Hz ⟨rfl, hz⟩; subst Hz)
    | refine Gs.mk (fun g => ?_) (fun g => ?_) <;> (try simp only [nm] at g) <;> try (exfalso; first | contradiction | omega)
    | refine Gr.mk (fun g => ?_) (fun g => ?_) <;> (try simp only [nm] at g) <;> try (exfalso; first | contradiction | omega)
    | (refine Run.of ?_; simp (maxSteps := 1000000) (disch := first | omega | assumption | (simp; done) | fail) [*, box_sb, LEx.len, LEx.take14, LEx.drop14, LEl.len, LEl.take4, LEl.drop4, lenNilS, idx60z, idx70z, cut60, cut70, idx60, idx70, wrap_nn, wrap_i64, LEl.bRow])
  all_goals first
    | (refine Kt_loop ⟨_, ?_, i + 1, xTwo 7 a y (LEl.conL a m (nth xs (i : Int))).1, (LEl.conL a m (nth xs (i : Int))).2, rfl, ?_⟩ <;> (repeat' apply And.intro) <;> first | omega | (simp [*]; done) | ((repeat (first | assumption | exact ExtO.refl _ _ | refine ExtO.bump ?_ | refine ExtO.setId ?_ | refine ExtO.setBox (by first | omega | (simp; omega)) ?_)); done) | (simp; omega) | (rw [drop_nth (by assumption), besF_cons] at hfd; exact hfd) | (rw [drop_nth (by assumption)] at hms; have := conL_le a m (nth xs (i : Int)); simp only [LEl.sizeB] at hms hn ⊢; omega) | fail)
    | (have hii : i = xs.length := (by omega); subst hii; simp only [List.drop_length, LEl.besF] at hfd; have hq1 : (LEl.besB a n (x :: xs)).1 = y := (by rw [← hfd]); have hq2 : (LEl.besB a n (x :: xs)).2 = m := (by rw [← hfd]); clear hfd; (refine Kx.mk ?_; refine owes_fz (H1 := H.setBox jn [[pi (((LEl.besB a n (x :: xs)).2 : Nat) : Int)]]) [_] (l := [.cell 6 121]) (.inr rfl) (wf_set hwf hb (by simp)) (by simp) rfl ?_ ?_ ⟨rfl, ?_⟩ <;> first | (exact below_agg1 (LEx.row_below _ _ _)) | (simp [hq1, hq2, *]; done) | (simp (maxDischargeDepth := 20) [resP, packed, aload, partOf, frzVs, frzV, frzLx, frzL, frz_nil, frz, LEx.len, LEx.take14, hq1, hq2, *]; refine ExtO.to ?_ (by omega) (by simp [*]); (repeat (first | assumption | exact ExtO.refl _ _ | refine ExtO.bump ?_ | refine ExtO.setId ?_ | refine ExtO.setBox (by first | omega | (simp; omega)) ?_)); done) | (simp (maxDischargeDepth := 20) [resP, packed, aload, partOf, frzVs, frzV, frzL, frz_nil, frz, LEx.row_mk, xNam, hq1, hq2, *]; refine ExtO.to ?_ (by omega) (by simp [*]); (repeat (first | assumption | exact ExtO.refl _ _ | refine ExtO.bump ?_ | refine ExtO.setId ?_ | refine ExtO.setBox (by first | omega | (simp; omega)) ?_)); done) | fail))
    | fail
mutual
theorem con_all : ∀ e : LEl, ConC e
  | .mk o p nm br => contact_of _ (bes_of br (bes_rows br))
theorem row_items : ∀ (l : List LEl), ∀ e ∈ l, ConC e
  | [] => by simp
  | x :: l => by
    have h1 := con_all x
    have h2 := row_items l
    intro e he
    rcases List.mem_cons.1 he with rfl | he
    · exact h1
    · exact h2 e he
theorem bes_rows : ∀ (b : List (List LEl)), ∀ l ∈ b, RowC l
  | [] => by simp
  | x :: b => by
    have h1 := row_of x (row_items x)
    have h2 := bes_rows b
    intro l hl
    rcases List.mem_cons.1 hl with rfl | hl
    · exact h1
    · exact h2 l hl
end
theorem xRow (l : List LEl) : RowC l := row_of l (row_items l)
set_option maxHeartbeats 4000000
theorem LEl.r0 (c : Nat) (e : LEl) : (e.row c)[0]? = some (pi e.op) := by rw [LEl.row_eq]; rfl
theorem LEl.r3 (c : Nat) (e : LEl) : (e.row c)[3]? = some (PV.sl c 1 (e.br.map (LEl.bRow c))) := by rw [LEl.row_eq]; rfl
theorem Made.set {O O1 : Nat → Prop} {H H1 : AS} {jc : Nat} {a b : List (List PV)} (h : Made O O1 (H.setBox jc a) H1) : Made O O1 (H.setBox jc b) (H1.setBox jc b) := by
  refine ⟨by have := h.next; simpa using this, by have := h.color; simpa using this, fun j hj => by have := h.mp j (by simpa using hj); simpa using this, fun j hj ho => ?_, fun j ho => by have := h.own j ho; simpa using this⟩
  have := h.box j (by simpa using hj) ho
  by_cases e : j = jc
  · simp [e]
  · simpa [e] using this
theorem Made.extR {O O1 : Nat → Prop} {H H1 H2 : AS} (h : Made O O1 H H1) (he : H1.Ext H2) : Made O O1 H H2 :=
  ⟨Nat.le_trans h.next he.next, by rw [he.color, h.color], fun j hj => by rw [he.mp j (Nat.lt_of_lt_of_le hj h.next), h.mp j hj], fun j hj ho => by rw [he.box j (Nat.lt_of_lt_of_le hj h.next), h.box j hj ho], h.own⟩
/-- What the edges so far have come to. -/
structure EdS (H : AS) (O : Nat → Prop) (id jc : Nat) (S : List LSt) (V : List LVr) (p : Int) (n : Nat) (E : List LEl) (H' : AS) (O' : Nat → Prop) : Prop where
  km : MkE H' O' id H.color (S ++ edgesS p n E) (V ++ edgesV n E)
  md : Made O O' (H.setBox jc [[pi ((n + E.length : Nat) : Int)]]) H'
theorem EdS.offc {H : AS} {O : Nat → Prop} {id jc : Nat} {S : List LSt} {V : List LVr} {p : Int} {n : Nat} {E : List LEl} {H' : AS} {O' : Nat → Prop} (h : EdS H O id jc S V p n E H' O') (hjc : Off O H jc [[pi n]]) : Off O' H' jc [[pi ((n + E.length : Nat) : Int)]] := hjc.here.made h.md
theorem EdS.offo {H : AS} {O : Nat → Prop} {id jc j : Nat} {S : List LSt} {V : List LVr} {p : Int} {n : Nat} {E : List LEl} {H' : AS} {O' : Nat → Prop} {r : List (List PV)} (h : EdS H O id jc S V p n E H' O') (hj : Off O H j r) (hne : ¬ j = jc) : Off O' H' j r := (hj.set hne).made h.md
theorem EdS.color {H : AS} {O : Nat → Prop} {id jc : Nat} {S : List LSt} {V : List LVr} {p : Int} {n : Nat} {E : List LEl} {H' : AS} {O' : Nat → Prop} (h : EdS H O id jc S V p n E H' O') : H'.color = H.color := by have := h.md.color; simpa using this
theorem EdS.ext {H : AS} {O : Nat → Prop} {id jc : Nat} {S : List LSt} {V : List LVr} {p : Int} {n : Nat} {E : List LEl} {H' M : AS} {O' : Nat → Prop} (h : EdS H O id jc S V p n E H' O') (he : H'.Ext M) : EdS H O id jc S V p n E M O' := ⟨h.km.ext he, h.md.extR he⟩
theorem EdS.step {H : AS} {O : Nat → Prop} {id jc : Nat} {S : List LSt} {V : List LVr} {p : Int} {n : Nat} {E E2 : List LEl} {M H2 : AS} {O' O2 : Nat → Prop} (h : EdS H O id jc S V p n E M O')
    (hk : MkE H2 O2 id M.color ((S ++ edgesS p n E) ++ edgesS p (n + E.length) E2) ((V ++ edgesV n E) ++ edgesV (n + E.length) E2)) (hd : Made O' O2 (M.setBox jc [[pi ((n + E.length + E2.length : Nat) : Int)]]) H2) : EdS H O id jc S V p n (E ++ E2) H2 O2 := by
  refine ⟨?_, ?_⟩
  · rw [h.color] at hk
    rw [edgesS_append, edgesV_append, ← List.append_assoc, ← List.append_assoc]; exact hk
  · rw [List.length_append, ← Nat.add_assoc]
    exact h.md.set.trans hd
theorem EdS.zero {H : AS} {O : Nat → Prop} {id jc : Nat} {S : List LSt} {V : List LVr} {p : Int} {n : Nat} (h : MkE H O id H.color S V) (hjc : Off O H jc [[pi n]]) : EdS H O id jc S V p n [] H O := by
  refine ⟨by simpa [edgesS, edgesV] using h, ?_⟩
  have e : H.setBox jc [[pi ((n + ([] : List LEl).length : Nat) : Int)]] = H := setBox_same (by simpa using hjc.box)
  rw [e]; exact .refl _ _
theorem edg_take {l : List LEl} {i : Nat} (h : i < l.length) : LEl.edgL (l.take (i + 1)) = LEl.edgL (l.take i) ++ LEl.edg (nth l (i : Int)) := by
  rw [take_nth h, LEl.edgL_append]; simp [LEl.edgL]
theorem edgB_take {l : List (List LEl)} {i : Nat} (h : i < l.length) : LEl.edgB (l.take (i + 1)) = LEl.edgB (l.take i) ++ LEl.edgL (nth l (i : Int)) := by
  rw [take_nth h, LEl.edgB_append]; simp [LEl.edgB]
theorem sizeL_take : ∀ {l : List LEl} {i : Nat}, i < l.length → LEl.sizeL (l.take i) + LEl.size (nth l (i : Int)) ≤ LEl.sizeL l := by
  intro l i h
  have e : LEl.sizeL l = LEl.sizeL (l.take (i + 1)) + LEl.sizeL (l.drop (i + 1)) := by rw [← LEl.sizeL_append, List.take_append_drop]
  rw [e, take_nth h, LEl.sizeL_append]; simp [LEl.sizeL, Nat.add_assoc]
theorem sizeB_take : ∀ {l : List (List LEl)} {i : Nat}, i < l.length → LEl.sizeB (l.take i) + LEl.sizeL (nth l (i : Int)) + 1 ≤ LEl.sizeB l := by
  intro l i h
  have e : LEl.sizeB l = LEl.sizeB (l.take (i + 1)) + LEl.sizeB (l.drop (i + 1)) := by rw [← LEl.sizeB_append, List.take_append_drop]
  rw [e, take_nth h, LEl.sizeB_append]; simp [LEl.sizeB]; omega
theorem nm_nth {l : List LEl} {i : Nat} (hn : LEl.nmL l) (h : i < l.length) : (nth l (i : Int)).name.size ≤ 262145 ∧ LEl.nmB (nth l (i : Int)).br := by
  have := nmL_mem hn (mem_nth h)
  cases hx : nth l (i : Int) with | mk o p nm br => rw [hx] at this; exact this
def EdgC (l : List LEl) : Prop := LEl.nmL l → ∀ (H : AS) (O : Nat → Prop) (id jc jm jx n : Nat) (S : List LSt) (V : List LVr) (rg : LRg) (c c' cm : Nat), cm = H.color → MkE H O id cm S V → Off O H jc [[pi n]] → Off O H jm [[.ptr id 1 0 0]] → Off O H jx [rg.row c'] → ¬ jm = jc → ¬ jx = jc →
    S.length + 2 * LEl.sizeL l < 268435456 → V.length + 2 * LEl.sizeL l < 268435456 → n + LEl.sizeL l < 536870912 →
    ACalls Tryz.prog 49 [PV.sl c 4 (l.map (LEl.row c)), .func 50 [.ptr jc 1 0 0, .ptr jm 1 0 0, .ptr jx 1 0 0]] H fun q H' => q = .tuple [] ∧ ∃ O', EdS H O id jc S V rg.pos n (LEl.edgL l) H' O'
theorem edges_of (l : List LEl) (ih : ∀ e ∈ l, ∀ b ∈ e.br, EdgC b) : EdgC l := by
  intro hnm H O id jc jm jx n S V rg c c' cm hc h hjc hjm hjx hmc hxc hS hV hnn
  subst hc
  refine ACalls_open Tryz.func49 rfl (by kernel_rfl) (by simp) fun hwf hbel => ?_
  have hll := LEl.length_le_size l
  repeat' first
    | refine T_seq ?_
    | refine T_rgn ?_
    | refine T_cd ?_
    | refine T_sk ?_
    | refine T_rt ?_
    | refine T_block ?_
    | refine T_ex ?_
    | refine Kt_then ?_
    | refine Kt_block ?_
    | refine Kr_then ?_
    | refine Kr_block ?_
    | refine Ke_here ?_
    | refine Ke_then ?_
    | refine Hid.mk ?_
    | refine Gs.mk (fun g => ?_) (fun g => ?_) <;> (try simp only [nm] at g) <;> try (exfalso; first | contradiction | omega)
    | refine Gr.mk (fun g => ?_) (fun g => ?_) <;> (try simp only [nm] at g) <;> try (exfalso; first | contradiction | omega)
    | (refine Run.of ?_; simp (maxSteps := 1000000) (disch := first | omega | assumption | (simp; done) | fail) [*, box_sb, LEl.len, LEl.take4, LEl.drop4, LEl.r0, LEl.r3, lenNilS, idx60, idx70, LEl.bRow, wrap_nn, wrap_i64])
  refine T_lp (fun k F H' => ∃ (i : Nat) (O1 : Nat → Prop), k = l.length - i ∧ F 1 = .func 50 [.ptr jc 1 0 0, .ptr jm 1 0 0, .ptr jx 1 0 0] ∧ F 8 = PV.sl c 4 (l.map (LEl.row c)) ∧ F 9 = pi l.length ∧ F 10 = pi i ∧ i ≤ l.length ∧ EdS H O id jc S V rg.pos n (LEl.edgL (l.take i)) H' O1) _ ⟨0, O, rfl, by simp, by simp, by simp, by simp, Nat.zero_le _, by simpa [LEl.edgL] using EdS.zero h hjc⟩ ?_
  rintro k F H1 ⟨i, O1, rfl, g1, g8, g9, g10, hi, hst⟩
  have hc1 := hst.color
  have hlen : (LEl.edgL (l.take i)).length ≤ LEl.sizeL (l.take i) := LEl.edgL_size _
  have hoc := hst.offc hjc
  have hom := hst.offo hjm hmc
  have hox := hst.offo hjx hxc
  repeat' first
    | refine T_seq ?_
    | refine T_rgn ?_
    | refine T_cd ?_
    | refine T_sk ?_
    | refine T_rt ?_
    | refine T_block ?_
    | refine T_ex ?_
    | refine Kt_then ?_
    | refine Kt_block ?_
    | refine Kr_then ?_
    | refine Kr_block ?_
    | refine Kr_loop ?_
    | refine Ke_here ?_
    | refine Ke_then ?_
    | refine Ke_loop ?_
    | refine Ke_block ?_
    | refine Hid.mk ?_
    | (refine callR (xEach _ O1 id H.color (S ++ edgesS rg.pos n (LEl.edgL (l.take i))) (V ++ edgesV n (LEl.edgL (l.take i))) jc jm jx (n + (LEl.edgL (l.take i)).length) (nth l (i : Int)) rg c' c (by simp [*]) (nm_nth hnm (by assumption)).1 ((hst.ext (by (repeat (first | exact AS.Ext.refl _ | assumption | refine AS.Ext.bump ?_ | refine AS.Ext.kill (by first | omega | (simp; omega) | simp) ?_ | refine AS.Ext.setBox (by first | omega | (simp; omega)) ?_)); done)).km) (hoc.ext (by (repeat (first | exact AS.Ext.refl _ | assumption | refine AS.Ext.bump ?_ | refine AS.Ext.kill (by first | omega | (simp; omega) | simp) ?_ | refine AS.Ext.setBox (by first | omega | (simp; omega)) ?_)); done)) (hom.ext (by (repeat (first | exact AS.Ext.refl _ | assumption | refine AS.Ext.bump ?_ | refine AS.Ext.kill (by first | omega | (simp; omega) | simp) ?_ | refine AS.Ext.setBox (by first | omega | (simp; omega)) ?_)); done)) (hox.ext (by (repeat (first | exact AS.Ext.refl _ | assumption | refine AS.Ext.bump ?_ | refine AS.Ext.kill (by first | omega | (simp; omega) | simp) ?_ | refine AS.Ext.setBox (by first | omega | (simp; omega)) ?_)); done)) hmc hxc (by have := sizeL_take (l := l) (i := i) (by assumption); simp [edgesS_length]; omega) (by have := sizeL_take (l := l) (i := i) (by assumption); simp [edgesV_length]; omega) (by have := sizeL_take (l := l) (i := i) (by assumption); omega)) ?_; rintro _ H2 ⟨rfl, O2, hk2, hd2⟩; have hst2 : EdS H O id jc S V rg.pos n ((LEl.edgL (l.take i)) ++ [nth l (i : Int)]) H2 O2 := (hst.ext (by (repeat (first | exact AS.Ext.refl _ | assumption | refine AS.Ext.bump ?_ | refine AS.Ext.kill (by first | omega | (simp; omega) | simp) ?_ | refine AS.Ext.setBox (by first | omega | (simp; omega)) ?_)); done)).step (by simpa [edgesS, edgesV, hc1] using hk2) hd2)
    | refine Gs.mk (fun g => ?_) (fun g => ?_) <;> (try simp only [nm] at g) <;> try (exfalso; first | contradiction | omega)
    | refine Gr.mk (fun g => ?_) (fun g => ?_) <;> (try simp only [nm] at g) <;> try (exfalso; first | contradiction | omega)
    | (refine Run.of ?_; simp (maxSteps := 1000000) (disch := first | omega | assumption | (simp; done) | fail) [*, box_sb, LEl.len, LEl.take4, LEl.drop4, LEl.r0, LEl.r3, lenNilS, idx60, idx70, LEl.bRow, wrap_nn, wrap_i64])
  all_goals first
    | (refine Kt_loop ⟨_, ?_, i + 1, O2, rfl, ?_, ?_, ?_, ?_, ?_, ?_⟩ <;> first | omega | (simp [*]; done) | (rw [edg_take (by assumption), LEl.edg_eq, if_pos (by omega)]; exact hst2) | fail)
    | (refine Kt_loop ⟨_, ?_, i + 1, O1, rfl, ?_, ?_, ?_, ?_, ?_, ?_⟩ <;> first | omega | (simp [*]; done) | (rw [edg_take (by assumption), LEl.edg_eq, if_neg (by omega), if_neg (by omega), List.append_nil]; exact hst.ext (by (repeat (first | exact AS.Ext.refl _ | assumption | refine AS.Ext.bump ?_ | refine AS.Ext.kill (by first | omega | (simp; omega) | simp) ?_ | refine AS.Ext.setBox (by first | omega | (simp; omega)) ?_)); done)) | fail)
    | ((first | refine Kx.mk ?_ | refine Kt.mk ?_); refine owesO_none (by first | exact .inl rfl | exact .inr rfl) rfl ⟨rfl, O1, ?_⟩; have hii : i = l.length := (by omega); subst hii; rw [List.take_length] at hst; exact hst)
    | skip
  have hst0 := size_nth (l := l) (i := i) (by assumption)
  have htk := sizeL_take (l := l) (i := i) (by assumption)
  rw [LEl.size_eq] at htk
  have hbl := LEl.lengthB_le (nth l (i : Int)).br
  refine T_lp (fun k F H' => ∃ (j : Nat) (O3 : Nat → Prop), k = (nth l (i : Int)).br.length - j ∧ F 1 = .func 50 [.ptr jc 1 0 0, .ptr jm 1 0 0, .ptr jx 1 0 0] ∧ F 8 = PV.sl c 4 (l.map (LEl.row c)) ∧ F 9 = pi l.length ∧ F 10 = pi i ∧ F 25 = PV.sl c 1 ((nth l (i : Int)).br.map (LEl.bRow c)) ∧ F 26 = pi (nth l (i : Int)).br.length ∧ F 27 = pi j ∧ j ≤ (nth l (i : Int)).br.length ∧ EdS H O id jc S V rg.pos n (LEl.edgL (l.take i) ++ LEl.edgB ((nth l (i : Int)).br.take j)) H' O3) _ ⟨0, O1, rfl, ?_⟩ ?_
  · (repeat' apply And.intro) <;> first | omega | (simp [*]; done) | (exact ((by simpa [LEl.edgB] using hst : EdS H O id jc S V rg.pos n (LEl.edgL (l.take i) ++ LEl.edgB ((nth l (i : Int)).br.take 0)) H1 O1)).ext (by (repeat (first | exact AS.Ext.refl _ | assumption | refine AS.Ext.bump ?_ | refine AS.Ext.kill (by first | omega | (simp; omega) | simp) ?_ | refine AS.Ext.setBox (by first | omega | (simp; omega)) ?_)); done)) | fail
  rintro k F H4 ⟨j, O3, rfl, g1, g8, g9, g10, g25, g26, g27, hj, hst3⟩
  have hc4 := hst3.color
  have hlen3 : (LEl.edgL (l.take i) ++ LEl.edgB ((nth l (i : Int)).br.take j)).length ≤ LEl.sizeL (l.take i) + LEl.sizeB ((nth l (i : Int)).br.take j) := by rw [List.length_append]; exact Nat.add_le_add (LEl.edgL_size _) (LEl.edgB_size _)
  repeat' first
    | refine T_seq ?_
    | refine T_rgn ?_
    | refine T_cd ?_
    | refine T_sk ?_
    | refine T_rt ?_
    | refine T_block ?_
    | refine T_ex ?_
    | refine Kt_then ?_
    | refine Kt_block ?_
    | refine Kr_then ?_
    | refine Kr_block ?_
    | refine Kr_loop ?_
    | refine Ke_here ?_
    | refine Ke_then ?_
    | refine Ke_loop ?_
    | refine Ke_block ?_
    | refine Hid.mk ?_
    | (refine callR (ih (nth l (i : Int)) (mem_nth (by assumption)) (nth (nth l (i : Int)).br (j : Int)) (mem_nth (by assumption)) (nmB_mem (nm_nth hnm (by assumption)).2 (mem_nth (by assumption))) _ O3 id jc jm jx (n + (LEl.edgL (l.take i) ++ LEl.edgB ((nth l (i : Int)).br.take j)).length) (S ++ edgesS rg.pos n (LEl.edgL (l.take i) ++ LEl.edgB ((nth l (i : Int)).br.take j))) (V ++ edgesV n (LEl.edgL (l.take i) ++ LEl.edgB ((nth l (i : Int)).br.take j))) rg c c' H.color (by simp [*]) hst3.km (hst3.offc hjc) (hst3.offo hjm hmc) (hst3.offo hjx hxc) hmc hxc (by have := sizeB_take (l := (nth l (i : Int)).br) (i := j) (by assumption); simp only [List.length_append, edgesS_length] at *; omega) (by have := sizeB_take (l := (nth l (i : Int)).br) (i := j) (by assumption); simp only [List.length_append, edgesV_length] at *; omega) (by have := sizeB_take (l := (nth l (i : Int)).br) (i := j) (by assumption); omega)) ?_; rintro _ H5 ⟨rfl, O5, hst5⟩; have hst6 : EdS H O id jc S V rg.pos n ((LEl.edgL (l.take i) ++ LEl.edgB ((nth l (i : Int)).br.take j)) ++ LEl.edgL (nth (nth l (i : Int)).br (j : Int))) H5 O5 := hst3.step hst5.km hst5.md)
    | refine Gs.mk (fun g => ?_) (fun g => ?_) <;> (try simp only [nm] at g) <;> try (exfalso; first | contradiction | omega)
    | refine Gr.mk (fun g => ?_) (fun g => ?_) <;> (try simp only [nm] at g) <;> try (exfalso; first | contradiction | omega)
    | (refine Run.of ?_; simp (maxSteps := 1000000) (disch := first | omega | assumption | (simp; done) | fail) [*, box_sb, LEl.len, LEl.take4, LEl.drop4, LEl.r0, LEl.r3, lenNilS, idx60, idx70, LEl.bRow, wrap_nn, wrap_i64])
  all_goals first
    | (refine Kt_loop ⟨_, ?_, j + 1, O5, rfl, ?_, ?_, ?_, ?_, ?_, ?_, ?_, ?_, ?_⟩ <;> first | omega | (simp [*]; done) | (rw [edgB_take (by assumption), ← List.append_assoc]; exact hst6) | fail)
    | (have hjj : j = (nth l (i : Int)).br.length := (by omega); refine Kt_loop ⟨_, ?_, i + 1, O3, rfl, ?_, ?_, ?_, ?_, ?_, ?_⟩ <;> first | omega | (simp [*]; done) | (rw [edg_take (by assumption), LEl.edg_eq, if_neg (by omega), if_pos (by assumption)]; rw [hjj, List.take_length] at hst3; exact hst3) | fail)
    | fail
mutual
theorem edg_items : ∀ (e : LEl), ∀ b ∈ e.br, EdgC b
  | .mk o p nm br => edg_rows br
theorem edg_rows : ∀ (br : List (List LEl)), ∀ b ∈ br, EdgC b
  | [] => by simp
  | x :: br => by
    have h1 := edges_of x (edg_list x)
    have h2 := edg_rows br
    intro b hb
    rcases List.mem_cons.1 hb with rfl | hb
    · exact h1
    · exact h2 b hb
theorem edg_list : ∀ (l : List LEl), ∀ e ∈ l, ∀ b ∈ e.br, EdgC b
  | [] => by simp
  | x :: l => by
    have h1 := edg_items x
    have h2 := edg_list l
    intro e he
    rcases List.mem_cons.1 he with rfl | he
    · exact h1
    · exact h2 e he
end
theorem xEdges (l : List LEl) : EdgC l := edges_of l (edg_list l)
set_option maxHeartbeats 4000000
/-- The maker's state between rungs. -/
structure LaS (H : AS) (S : List LSt) (V : List LVr) (n : Nat) (H' : AS) (O' : Nat → Prop) : Prop where
  km : MkE H' O' H.next H.color S V
  om : Off O' H' (H.next + 1) [[.ptr H.next 1 0 0]]
  oc : Off O' H' (H.next + 2) [[pi n]]
  ext : H.Ext H'
  own : ∀ j, O' j → H.next ≤ j
theorem LaS.color {H : AS} {S : List LSt} {V : List LVr} {n : Nat} {H' : AS} {O' : Nat → Prop} (h : LaS H S V n H' O') : H'.color = H.color := h.ext.color
theorem LaS.ext' {H : AS} {S : List LSt} {V : List LVr} {n : Nat} {H' M : AS} {O' : Nat → Prop} (h : LaS H S V n H' O') (he : H'.Ext M) : LaS H S V n M O' :=
  ⟨h.km.ext he, h.om.ext he, h.oc.ext he, h.ext.trans he, h.own⟩
theorem LaS.made {H : AS} {S S2 : List LSt} {V V2 : List LVr} {n : Nat} {H' H2 : AS} {O' O2 : Nat → Prop} (h : LaS H S V n H' O') (hk : MkE H2 O2 H.next H.color S2 V2) (hd : Made O' O2 H' H2) : LaS H S2 V2 n H2 O2 := by
  have hn := h.ext.next
  refine ⟨hk, h.om.made hd, h.oc.made hd, ⟨Nat.le_trans hn hd.next, fun j hj => ?_, fun j hj => ?_, by rw [hd.color, h.color]⟩, fun j ho => ?_⟩
  · rw [hd.box j (by omega) fun ho => by have := h.own j ho; omega]; exact h.ext.box j hj
  · rw [hd.mp j (by omega)]; exact h.ext.mp j hj
  · rcases hd.own j ho with h1 | h1
    · exact h.own j h1
    · omega
theorem LaS.eds {H : AS} {S : List LSt} {V : List LVr} {n : Nat} {H' M H2 : AS} {O' O2 : Nat → Prop} {p : Int} {E : List LEl} (h : LaS H S V n H' O') (he : H'.Ext M) (hs : EdS M O' H.next (H.next + 2) S V p n E H2 O2) :
    LaS H (S ++ edgesS p n E) (V ++ edgesV n E) (n + E.length) H2 O2 := by
  have h1 := h.ext' he
  have hn := h1.ext.next
  have hnx : M.next ≤ H2.next := by have := hs.md.next; simpa using this
  refine ⟨by have := hs.km; rwa [h1.color] at this, hs.offo h1.om (by omega), hs.offc h1.oc, ⟨by omega, fun j hj => ?_, fun j hj => ?_, by rw [hs.color, h1.color]⟩, fun j ho => ?_⟩
  · rw [hs.md.box j (by simp; omega) fun ho => by have := h1.own j ho; omega]
    simp [show ¬ j = H.next + 2 by omega]; exact h1.ext.box j hj
  · rw [hs.md.mp j (by simp; omega)]; simp; exact h1.ext.mp j hj
  · rcases hs.md.own j ho with h2 | h2
    · exact h1.own j h2
    · simp at h2; omega
theorem las_zero {H M : AS} (he : H.Ext M) (h0 : M.box H.next = some [[.nil, .nil]]) (h1 : M.box (H.next + 1) = some [[.ptr H.next 1 0 0]]) (h2 : M.box (H.next + 2) = some [[pi 0]]) (hn : H.next + 2 < M.next) : LaS H [] [] 0 M fun j => j = H.next := by
  have hk : Mk M (fun j => j = H.next) H.next H.color [] [] .nil .nil :=
    { box := h0, s := .nil, v := .nil, own := fun j => ⟨fun h => .inl h, fun h => h.resolve_right (by rintro (⟨_, _, h⟩ | ⟨_, _, h⟩) <;> cases h)⟩, ne := fun j n s n' s' e => (nomatch e), n1 := fun n s e => (nomatch e), n2 := fun n s e => (nomatch e), lt := by omega }
  exact ⟨⟨_, _, hk⟩, ⟨h1, by omega, by omega⟩, ⟨h2, hn, by omega⟩, he, fun j h => by omega⟩
theorem itoaIs' (H : AS) (n : Nat) (h1 : n < 9223372036854775807) : ACalls Tryz.prog 32 [pi ((n : Int) + 1)] H fun q H' => q = ps (hid [] (n + 1)) ∧ H' = H := by
  rw [show ((n : Int) + 1) = ((n + 1 : Nat) : Int) by omega]; exact itoaIs H (n + 1) (by omega)
theorem nm_coil {l : List LEl} {j : Nat} (hn : LEl.nmL l) (h : j < l.length) : (nth l (j : Int)).name.size ≤ 262145 := (nm_nth hn h).1
theorem rung_end {i n : Nat} {l : List LRg} (h : i < l.length) (hn : n = ladE (l.take i)) : ladS 0 0 (l.take (i + 1)) = (ladS 0 0 (l.take i) ++ edgesS (nth l (i : Int)).pos n (LEl.edgL (nth l (i : Int)).con)) ++ [sSet (nth l (i : Int)).pos (xNam (hR (i + 1)) (nth l (i : Int)).pos) (LEl.conL (nth l (i : Int)).pos n (nth l (i : Int)).con).1] ++ (nth l (i : Int)).coils.map (coilS (nth l (i : Int)).pos (hR (i + 1)))
    ∧ ladV 0 0 (l.take (i + 1)) = (ladV 0 0 (l.take i) ++ edgesV n (LEl.edgL (nth l (i : Int)).con)) ++ [⟨hR (i + 1), 5, 1⟩] ∧ ladE (l.take (i + 1)) = n + (LEl.edgL (nth l (i : Int)).con).length := by
  subst hn
  rw [take_nth h, ladS_append, ladV_append, ladE_append]
  have hl : (l.take i).length = i := by simp; omega
  simp [ladS, ladV, ladE, rungS, rungV, rungE, hl]
theorem lad_le : ∀ l : List LRg, ladE l + l.length + ladC l ≤ rgS l
  | [] => by simp [ladE, ladC, rgS]
  | g :: l => by
    have h := lad_le l
    have h1 := LEl.edgL_size g.con
    have h2 := LEl.length_le_size g.coils
    simp [ladE, ladC, rgS, rungE]; omega
theorem rgS_take {l : List LRg} {i : Nat} (h : i < l.length) : rgS (l.take i) + 1 + LEl.sizeL (nth l (i : Int)).con + LEl.sizeL (nth l (i : Int)).coils ≤ rgS l := by
  have e : rgS l = rgS (l.take (i + 1)) + rgS (l.drop (i + 1)) := by rw [← rgS_append, List.take_append_drop]
  rw [e, take_nth h, rgS_append]; simp [rgS]; omega
theorem lad_b1 {l : List LRg} {i : Nat} (h : i < l.length) (hs : rgS l ≤ 1048576) : (ladS 0 0 (l.take i)).length + 2 * LEl.sizeL (nth l (i : Int)).con < 268435456 := by
  have h1 := rgS_take h
  have h2 := lad_le (l.take i)
  rw [ladS_length]; omega
theorem lad_b2 {l : List LRg} {i : Nat} (h : i < l.length) (hs : rgS l ≤ 1048576) : (ladV 0 0 (l.take i)).length + 2 * LEl.sizeL (nth l (i : Int)).con < 268435456 := by
  have h1 := rgS_take h
  have h2 := lad_le (l.take i)
  rw [ladV_length]; omega
theorem lad_b3 {l : List LRg} {i : Nat} (h : i < l.length) (hs : rgS l ≤ 1048576) : ladE (l.take i) + LEl.sizeL (nth l (i : Int)).con < 536870912 := by
  have h1 := rgS_take h
  have h2 := lad_le (l.take i)
  omega
theorem OutIs.raise {lo lo' sz : Nat} {H : AS} {p : PV} {rows : List (List PV)} (h : OutIs lo H p sz rows) (hl : ∀ j n s, p = .msl j n s → lo' ≤ j) : OutIs lo' H p sz rows := by
  rcases h with ⟨h1, h2⟩ | ⟨j, h1, h2, h3, h4⟩
  · exact .inl ⟨h1, h2⟩
  · exact .inr ⟨j, hl j _ _ h3, h2, h3, h4⟩
theorem OutIs.frzV {lo sz : Nat} {H : AS} {p : PV} {rows : List (List PV)} (h : OutIs lo H p sz rows) : frzV H p = frz H p := by
  rcases h with ⟨_, rfl⟩ | ⟨j, _, _, rfl, _⟩ <;> rfl
/-- What the maker made, answered. -/
theorem owes_mk {P : Program} {H : AS} {fn : Func} {R : PV → AS → Prop} {l : List ResultVar} {F' : AF} {H' : AS} {e : Exit} {O : Nat → Prop} {S : List LSt} {V : List LVr} {p1 p2 : PV} (he : e = .normal ∨ e = .ret) (hwf : WF H) (hl : fn.results.toList = l)
    (hm : Mk H' O H.next H.color S V p1 p2) (hext : H.Ext H') (hown : ∀ j, O j → H.next ≤ j) (hr : resP P F' H' l fun rs => rs = [p1, p2, .val .nilIface])
    (hR : R (.tuple [PV.sl H.color 14 (S.map (LSt.row H.color)), PV.sl H.color 16 (V.map LVr.row), .val .nilIface]) H) : Owes P fn H R e F' H' := by
  obtain ⟨rs, h1, rfl⟩ := resP_res hr
  have o1 : OutIs H.next H' p1 14 (S.map (LSt.row H.color)) := hm.s.raise fun j n s e => hown j ((hm.own j).2 (.inr (.inl ⟨n, s, e⟩)))
  have o2 : OutIs H.next H' p2 16 (V.map LVr.row) := hm.v.raise fun j n s e => hown j ((hm.own j).2 (.inr (.inr ⟨n, s, e⟩)))
  obtain ⟨Ha, ha, hn, hc, hb, hmp, hab⟩ := frz_out' o1
  have o3 : OutIs H.next Ha p2 16 (V.map LVr.row) := by
    rcases o2 with ⟨h1, h2⟩ | ⟨j, h1, h2, h3, h4⟩
    · exact .inl ⟨h1, h2⟩
    · exact .inr ⟨j, h1, by omega, h3, by rw [hb j fun n s e => hm.ne j n s _ _ e h3]; exact h4⟩
  obtain ⟨Hb, hb', hn2, hc2, _, _, hab2⟩ := frz_out' o3
  have hz : frzVs H' [p1, p2, .val .nilIface] = ([PV.sl H'.color 14 (S.map (LSt.row H.color)), PV.sl Ha.color 16 (V.map LVr.row), .val .nilIface], Hb) := by
    have e1 : frzV H' p1 = (PV.sl H'.color 14 (S.map (LSt.row H.color)), Ha) := by rw [o1.frzV]; exact ha
    have e2 : frzV Ha p2 = (PV.sl Ha.color 16 (V.map LVr.row), Hb) := by rw [o3.frzV]; exact hb'
    have e3 : frzV Hb (.val .nilIface) = (.val .nilIface, Hb) := rfl
    simp only [frzVs, e1, e2, e3]
  refine ⟨he, ?_⟩
  rw [hl, h1]
  refine ⟨H, Nat.le_refl _, ?_, hwf, ?_, ?_⟩
  · rw [hz]; exact hab2 H (Nat.le_refl _) (hab H (Nat.le_refl _) hext)
  · rw [hz]
    intro p hp
    simp only [List.mem_cons, List.not_mem_nil, or_false] at hp
    rcases hp with rfl | rfl | rfl
    · rw [below_sl]; exact LSt.rows_below _ _ _
    · rw [below_sl]; intro r hr p hp
      obtain ⟨v, _, rfl⟩ := List.mem_map.1 hr
      simp only [LVr.row, List.mem_cons, List.not_mem_nil, or_false] at hp
      rcases hp with rfl | rfl | rfl | rfl | rfl | rfl | rfl | rfl | rfl | rfl | rfl | rfl | rfl | rfl | rfl | rfl
      all_goals first | exact .val _ | (simp; done)
    · exact .val _
  · rw [hz, hc, hext.color]; exact hR
theorem xLadder (H : AS) (c : Nat) (l : List LRg) (hc : c < 2) (hgd : ∀ g ∈ l, g.good) (hsz : rgS l ≤ 1048576) : ACalls Tryz.prog 17 [PV.sl c 3 (l.map (LRg.row c))] H fun q H' => q = .tuple [PV.sl H.color 14 ((ladS 0 0 l).map (LSt.row H.color)), PV.sl H.color 16 ((ladV 0 0 l).map LVr.row), .val .nilIface] ∧ H' = H := by
  refine ACalls_intro Tryz.func17 rfl (by kernel_rfl) (by simp) fun hwf hbel => ?_
  have hll := rgS_length l
  repeat' first
    | refine T_seq ?_
    | refine T_rgn ?_
    | refine T_cd ?_
    | refine T_sk ?_
    | refine T_rt ?_
    | refine T_block ?_
    | refine T_ex ?_
    | refine Kt_then ?_
    | refine Kt_block ?_
    | refine Kr_then ?_
    | refine Kr_block ?_
    | refine Ke_here ?_
    | refine Ke_then ?_
    | refine Hid.mk ?_
    | refine Gs.mk (fun g => ?_) (fun g => ?_) <;> (try simp only [nm] at g) <;> try (exfalso; first | contradiction | omega)
    | refine Gr.mk (fun g => ?_) (fun g => ?_) <;> (try simp only [nm] at g) <;> try (exfalso; first | contradiction | omega)
    | (refine Run.of ?_; simp (maxSteps := 1000000) (disch := first | omega | assumption | (simp; done) | fail) [*, box_sb, lenNilS, idx55, idx60, wrap_nn, wrap_i64, LEl.len, LEl.take4, LEl.drop4, LEx.len, LEx.take14, LEx.drop14, frzVs_color, color_kill, LSt.len, LSt.take14, app_size, catIf, wk_two, aStep_eq, LRg.row_eq])
  refine T_lp (fun k F H' => ∃ (i : Nat) (O1 : Nat → Prop), k = l.length - i ∧ F 5 = .ptr (H.next + 1) 1 0 0 ∧ F 6 = .ptr (H.next + 2) 1 0 0 ∧ F 17 = PV.sl c 3 (l.map (LRg.row c)) ∧ F 18 = pi l.length ∧ F 19 = pi i ∧ i ≤ l.length ∧ LaS H (ladS 0 0 (l.take i)) (ladV 0 0 (l.take i)) (ladE (l.take i)) H' O1) _ ⟨0, fun j => j = H.next, rfl, by simp, by simp, by simp, by simp, by simp, Nat.zero_le _, by simpa [ladS, ladV, ladE] using las_zero (by (repeat (first | exact AS.Ext.refl _ | assumption | refine AS.Ext.bump ?_ | refine AS.Ext.kill (by first | omega | (simp; omega) | simp) ?_ | refine AS.Ext.setBox (by first | omega | (simp; omega)) ?_)); done) (by simp) (by simp) (by simp) (by simp)⟩ ?_
  rintro k F H1 ⟨i, O1, rfl, g5, g6, g17, g18, g19, hi, hst⟩
  have hc1 := hst.color
  have bm1 := hst.om.box
  have bc1 := hst.oc.box
  have lm1 := hst.om.lt
  have lc1 := hst.oc.lt
  have e1 : ¬ H.next + 1 = H1.next := by omega
  have e2 : ¬ H.next + 2 = H1.next := by omega
  have hsz1 := hid_size [] (i + 1) (by omega)
  simp only [List.length_nil, Nat.zero_add] at hsz1
  have hR1 : (⟨#[95, 82]⟩ : ByteArray) ++ hid [] (i + 1) = hR (i + 1) := hid_app [95, 82] (i + 1)
  repeat' first
    | refine T_seq ?_
    | refine T_rgn ?_
    | refine T_cd ?_
    | refine T_sk ?_
    | refine T_rt ?_
    | refine T_block ?_
    | refine T_ex ?_
    | refine Kt_then ?_
    | refine Kt_block ?_
    | refine Kr_then ?_
    | refine Kr_block ?_
    | refine Kr_loop ?_
    | refine Ke_here ?_
    | refine Ke_then ?_
    | refine Ke_loop ?_
    | refine Ke_block ?_
    | refine Hid.mk ?_
    | refine T_dr (id := 12) (fun j => j = H.next + 1 ∨ j = H1.next ∨ j = H3.next + 1) [] (.free 0 (.free 1 (.free 2 (.free 3 (.free 4 (.free 5 (.free 6 (.free 7 (.sole 8 (.sole 9 .done)))))))))) mix ?_
    | refine And.intro (fun _ h1 h2 => absurd h2 h1) ?_
    | (refine callR (xEdges (nth l (i : Int)).con (hgd _ (mem_nth (by assumption))).nm _ O1 H.next (H.next + 2) (H.next + 1) H1.next (ladE (l.take i)) (ladS 0 0 (l.take i)) (ladV 0 0 (l.take i)) (nth l (i : Int)) c c H.color (by simp [*]) ((hst.ext' (by (repeat (first | exact AS.Ext.refl _ | assumption | refine AS.Ext.bump ?_ | refine AS.Ext.kill (by first | omega | (simp; omega) | simp) ?_ | refine AS.Ext.setBox (by first | omega | (simp; omega)) ?_)); done)).km) (hst.oc.ext (by (repeat (first | exact AS.Ext.refl _ | assumption | refine AS.Ext.bump ?_ | refine AS.Ext.kill (by first | omega | (simp; omega) | simp) ?_ | refine AS.Ext.setBox (by first | omega | (simp; omega)) ?_)); done)) (hst.om.ext (by (repeat (first | exact AS.Ext.refl _ | assumption | refine AS.Ext.bump ?_ | refine AS.Ext.kill (by first | omega | (simp; omega) | simp) ?_ | refine AS.Ext.setBox (by first | omega | (simp; omega)) ?_)); done)) (Off.new hst.km (Nat.le_refl _) (by rw [LRg.row_eq]; simp) (by simp)) (by omega) (by omega) (lad_b1 (by assumption) hsz) (lad_b2 (by assumption) hsz) (lad_b3 (by assumption) hsz)) ?_; rintro _ H2 ⟨rfl, O2, hs2⟩; have hst2 := hst.eds (by (repeat (first | exact AS.Ext.refl _ | assumption | refine AS.Ext.bump ?_ | refine AS.Ext.kill (by first | omega | (simp; omega) | simp) ?_ | refine AS.Ext.setBox (by first | omega | (simp; omega)) ?_)); done) hs2; have fx2 : Off O2 H2 H1.next [(nth l (i : Int)).row c] := EdS.offo hs2 (Off.new hst.km (Nat.le_refl _) (by rw [LRg.row_eq]; simp) (by simp)) (by omega); have bm2 := hst2.om.box; have bc2 := hst2.oc.box; have bx2 := fx2.box; rw [LRg.row_eq] at bx2; have lx2 := fx2.lt; have hc2 := hst2.color)
    | (refine callR (xHidden H2 O2 H.next H.color ((ladS 0 0 (l.take i)) ++ edgesS (nth l (i : Int)).pos (ladE (l.take i)) (LEl.edgL (nth l (i : Int)).con)) ((ladV 0 0 (l.take i)) ++ edgesV (ladE (l.take i)) (LEl.edgL (nth l (i : Int)).con)) (hR (i + 1)) 5 1 hst2.km (by have h1 := lad_b2 (l := l) (i := i) (by assumption) hsz; have h2 := LEl.edgL_size (nth l (i : Int)).con; simp only [List.length_append, edgesV_length]; omega)) ?_; rintro _ H3 ⟨rfl, O3, hk3, hd3⟩; have hst3 := hst2.made hk3 hd3; have fx3 := fx2.made hd3; have bm3 := hst3.om.box; have bx3 := fx3.box; rw [LRg.row_eq] at bx3; have lx3 := fx3.lt; have lm3 := hst3.om.lt; have hc3 := hst3.color; have i1 : ¬ H.next + 1 = H3.next := (by omega); have i2 : ¬ H1.next = H3.next := (by omega); have i3 : ¬ H.next + 1 = H3.next + 1 := (by omega); have i4 : ¬ H1.next = H3.next + 1 := (by omega); have i5 : ¬ H3.next = H3.next + 1 := (by omega); have i6 : ¬ H.next = H3.next := (by omega))
    | (refine call_frz (args' := [pi (nth l (i : Int)).pos, .agg (LEx.row H.color (xNam (hR (i + 1)) (nth l (i : Int)).pos)), .agg (LEx.row H.color (LEl.conL (nth l (i : Int)).pos (ladE (l.take i)) (nth l (i : Int)).con).1)]) ?_ (xSet_ _ (nth l (i : Int)).pos H.color (xNam (hR (i + 1)) (nth l (i : Int)).pos) (LEl.conL (nth l (i : Int)).pos (ladE (l.take i)) (nth l (i : Int)).con).1 (by rw [frzVs_color]; simp [*])) ?_; (focus (simp (maxDischargeDepth := 20) [frzLx, frzLs, frzVs, frzV, frzL, frz_nil, frz, LEx.row_mk, xNam, *] <;> rfl; done)); rintro _ Hz ⟨rfl, hz⟩; (try simp only [frzLx, frzLs, frzVs, frzV, frzL, frz_nil, frz] at hz); subst Hz)
    | (refine callR (xPut _ O3 H.next H.color ((ladS 0 0 (l.take i)) ++ edgesS (nth l (i : Int)).pos (ladE (l.take i)) (LEl.edgL (nth l (i : Int)).con)) (((ladV 0 0 (l.take i)) ++ edgesV (ladE (l.take i)) (LEl.edgL (nth l (i : Int)).con)) ++ [⟨hR (i + 1), 5, 1⟩]) _ (hk3.ext ?_) (by have h1 := lad_b1 (l := l) (i := i) (by assumption) hsz; have h2 := LEl.edgL_size (nth l (i : Int)).con; simp only [List.length_append, edgesS_length]; omega)) ?_; (focus ((repeat (first | exact AS.Ext.refl _ | assumption | refine AS.Ext.bump ?_ | refine AS.Ext.kill (by first | omega | (simp; omega) | simp) ?_ | refine AS.Ext.setBox (by first | omega | (simp; omega)) ?_)); done)); rintro _ H4 ⟨rfl, O4, hk4, hd4⟩; have hst4 := (hst3.ext' (by (repeat (first | exact AS.Ext.refl _ | assumption | refine AS.Ext.bump ?_ | refine AS.Ext.kill (by first | omega | (simp; omega) | simp) ?_ | refine AS.Ext.setBox (by first | omega | (simp; omega)) ?_)); done)).made hk4 hd4; have fx4 := (fx3.ext (by (repeat (first | exact AS.Ext.refl _ | assumption | refine AS.Ext.bump ?_ | refine AS.Ext.kill (by first | omega | (simp; omega) | simp) ?_ | refine AS.Ext.setBox (by first | omega | (simp; omega)) ?_)); done)).made hd4; have bm4 := hst4.om.box; have bx4 := fx4.box; rw [LRg.row_eq] at bx4; have lx4 := fx4.lt; have lm4 := hst4.om.lt; have hc4 := hst4.color; have bt4 := hd4.box (H3.next + 1) (by simp) (fun ho => by have := hk3.olt ho; omega); simp (maxDischargeDepth := 20) [*] at bt4)
    | (refine callR (itoaIs' _ i (by omega)) ?_; rintro _ Hz ⟨rfl, hz⟩; subst Hz)
    | (refine callR (xRow (nth l (i : Int)).con (hgd _ (mem_nth (by assumption))).nm _ c (nth l (i : Int)).pos H3.next (ladE (l.take i)) hc (by simp [*]) (by have h1 := lad_b3 (l := l) (i := i) (by assumption) hsz; omega)) ?_; rintro _ Hz ⟨rfl, hz⟩; subst Hz)
    | refine Gs.mk (fun g => ?_) (fun g => ?_) <;> (try simp only [nm] at g) <;> try (exfalso; first | contradiction | omega)
    | refine Gr.mk (fun g => ?_) (fun g => ?_) <;> (try simp only [nm] at g) <;> try (exfalso; first | contradiction | omega)
    | (refine Run.of ?_; simp (maxSteps := 1000000) (disch := first | omega | assumption | (simp; done) | fail) [*, box_sb, lenNilS, idx55, idx60, wrap_nn, wrap_i64, LEl.len, LEl.take4, LEl.drop4, LEx.len, LEx.take14, LEx.drop14, frzVs_color, color_kill, LSt.len, LSt.take14, app_size, catIf, wk_two, aStep_eq, LRg.row_eq])
  rotate_left
  · obtain ⟨p1, p2, hm⟩ := hst.km
    have bmk := hm.box
    repeat' first
      | refine T_seq ?_
      | refine T_rgn ?_
      | refine T_cd ?_
      | refine T_sk ?_
      | refine T_rt ?_
      | refine T_block ?_
      | refine T_ex ?_
      | refine Kt_then ?_
      | refine Kt_block ?_
      | refine Kr_then ?_
      | refine Kr_block ?_
      | refine Kr_loop ?_
      | refine Ke_here ?_
      | refine Ke_then ?_
      | refine Ke_loop ?_
      | refine Ke_block ?_
      | refine Hid.mk ?_
      | refine T_dr (id := 19) (fun _ => True) [] (.free 0 (.free 1 (.free 2 (.free 3 (.free 4 (.free 5 (.free 6 (.free 7 (.free 8 (.free 9 (.free 10 .done))))))))))) mix ?_
      | refine Gs.mk (fun g => ?_) (fun g => ?_) <;> (try simp only [nm] at g) <;> try (exfalso; first | contradiction | omega)
      | refine Gr.mk (fun g => ?_) (fun g => ?_) <;> (try simp only [nm] at g) <;> try (exfalso; first | contradiction | omega)
      | (refine Run.of ?_; simp (maxSteps := 1000000) (disch := first | omega | assumption | (simp; done) | fail) [*, box_sb, lenNilS, idx55, idx60, wrap_nn, wrap_i64, LEl.len, LEl.take4, LEl.drop4, LEx.len, LEx.take14, LEx.drop14, frzVs_color, color_kill, LSt.len, LSt.take14, app_size, catIf, wk_two, aStep_eq, LRg.row_eq])
    all_goals (refine Kx.mk ?_; have hii : i = l.length := (by omega); subst hii; rw [List.take_length] at hm; exact owes_mk (l := [.tmp 2, .tmp 3, .tmp 4]) (.inr rfl) hwf rfl hm hst.ext hst.own rfl ⟨rfl, rfl⟩)
  refine T_lp (fun k F H' => ∃ (j : Nat) (O5 : Nat → Prop), k = (nth l (i : Int)).coils.length - j ∧ F 5 = .ptr (H.next + 1) 1 0 0 ∧ F 6 = .ptr (H.next + 2) 1 0 0 ∧ F 17 = PV.sl c 3 (l.map (LRg.row c)) ∧ F 18 = pi l.length ∧ F 19 = pi i ∧ F 8 = .ptr H1.next 1 0 0 ∧ F 10 = ps (hR (i + 1)) ∧ F 54 = PV.sl c 4 ((nth l (i : Int)).coils.map (LEl.row c)) ∧ F 55 = pi (nth l (i : Int)).coils.length ∧ F 56 = pi j ∧ j ≤ (nth l (i : Int)).coils.length ∧ LaS H ((((ladS 0 0 (l.take i)) ++ edgesS (nth l (i : Int)).pos (ladE (l.take i)) (LEl.edgL (nth l (i : Int)).con)) ++ [sSet (nth l (i : Int)).pos (xNam (hR (i + 1)) (nth l (i : Int)).pos) (LEl.conL (nth l (i : Int)).pos (ladE (l.take i)) (nth l (i : Int)).con).1]) ++ ((nth l (i : Int)).coils.take j).map (coilS (nth l (i : Int)).pos (hR (i + 1)))) (((ladV 0 0 (l.take i)) ++ edgesV (ladE (l.take i)) (LEl.edgL (nth l (i : Int)).con)) ++ [⟨hR (i + 1), 5, 1⟩]) ((ladE (l.take i)) + (LEl.edgL (nth l (i : Int)).con).length) H' O5 ∧ Off O5 H' H1.next [(nth l (i : Int)).row c]) _ ⟨0, O4, rfl, ?_⟩ ?_
  · (repeat' apply And.intro) <;> first | (exact Nat.zero_le _) | (simp [*]; done) | (simpa using hst4) | (exact fx4) | fail
  rintro k F H5 ⟨j, O5, rfl, g5, g6, g17, g18, g19, g8, g10, g54, g55, g56, hj, hst5, fx5⟩
  have hc5 := hst5.color
  have bm5 := hst5.om.box
  have bx5 := fx5.box
  rw [LRg.row_eq] at bx5
  have lx5 := fx5.lt
  have lm5 := hst5.om.lt
  have i7 : ¬ H.next + 1 = H5.next := by omega
  have i8 : ¬ H1.next = H5.next := by omega
  have htk := rgS_take (l := l) (i := i) (by assumption)
  have hcl := LEl.length_le_size (nth l (i : Int)).coils
  repeat' first
    | refine T_seq ?_
    | refine T_rgn ?_
    | refine T_cd ?_
    | refine T_sk ?_
    | refine T_rt ?_
    | refine T_block ?_
    | refine T_ex ?_
    | refine Kt_then ?_
    | refine Kt_block ?_
    | refine Kr_then ?_
    | refine Kr_block ?_
    | refine Kr_loop ?_
    | refine Ke_here ?_
    | refine Ke_then ?_
    | refine Ke_loop ?_
    | refine Ke_block ?_
    | refine Hid.mk ?_
    | (refine callR (xCoil _ O5 H.next H.color ((((ladS 0 0 (l.take i)) ++ edgesS (nth l (i : Int)).pos (ladE (l.take i)) (LEl.edgL (nth l (i : Int)).con)) ++ [sSet (nth l (i : Int)).pos (xNam (hR (i + 1)) (nth l (i : Int)).pos) (LEl.conL (nth l (i : Int)).pos (ladE (l.take i)) (nth l (i : Int)).con).1]) ++ ((nth l (i : Int)).coils.take j).map (coilS (nth l (i : Int)).pos (hR (i + 1)))) (((ladV 0 0 (l.take i)) ++ edgesV (ladE (l.take i)) (LEl.edgL (nth l (i : Int)).con)) ++ [⟨hR (i + 1), 5, 1⟩]) c (nth (nth l (i : Int)).coils (j : Int)) (nth l (i : Int)).pos (hR (i + 1)) (by simp [*]) (nm_coil (hgd _ (mem_nth (by assumption))).nc (by assumption)) ((hst5.ext' (by (repeat (first | exact AS.Ext.refl _ | assumption | refine AS.Ext.bump ?_ | refine AS.Ext.kill (by first | omega | (simp; omega) | simp) ?_ | refine AS.Ext.setBox (by first | omega | (simp; omega)) ?_)); done)).km) (by have h1 := lad_b1 (l := l) (i := i) (by assumption) hsz; have h2 := LEl.edgL_size (nth l (i : Int)).con; simp only [List.length_append, edgesS_length, List.length_map, List.length_take, List.length_cons, List.length_nil]; omega)) ?_; rintro _ H6 ⟨rfl, O6, hk6, hd6⟩; have hst6 := (hst5.ext' (by (repeat (first | exact AS.Ext.refl _ | assumption | refine AS.Ext.bump ?_ | refine AS.Ext.kill (by first | omega | (simp; omega) | simp) ?_ | refine AS.Ext.setBox (by first | omega | (simp; omega)) ?_)); done)).made hk6 hd6; have fx6 := (fx5.ext (by (repeat (first | exact AS.Ext.refl _ | assumption | refine AS.Ext.bump ?_ | refine AS.Ext.kill (by first | omega | (simp; omega) | simp) ?_ | refine AS.Ext.setBox (by first | omega | (simp; omega)) ?_)); done)).made hd6)
    | refine Gs.mk (fun g => ?_) (fun g => ?_) <;> (try simp only [nm] at g) <;> try (exfalso; first | contradiction | omega)
    | refine Gr.mk (fun g => ?_) (fun g => ?_) <;> (try simp only [nm] at g) <;> try (exfalso; first | contradiction | omega)
    | (refine Run.of ?_; simp (maxSteps := 1000000) (disch := first | omega | assumption | (simp; done) | fail) [*, box_sb, lenNilS, idx55, idx60, wrap_nn, wrap_i64, LEl.len, LEl.take4, LEl.drop4, LEx.len, LEx.take14, LEx.drop14, frzVs_color, color_kill, LSt.len, LSt.take14, app_size, catIf, wk_two, aStep_eq, LRg.row_eq])
  all_goals first
    | (refine Kt_loop ⟨_, ?_, j + 1, O6, rfl, ?_⟩ <;> (repeat' apply And.intro) <;> first | omega | (simp [*]; done) | (rw [take_nth (by assumption), List.map_append, ← List.append_assoc]; exact hst6) | (exact fx6) | fail)
    | (have hjj : j = (nth l (i : Int)).coils.length := (by omega); obtain ⟨r1, r2, r3⟩ := rung_end (i := i) (l := l) (by assumption) rfl; rw [hjj, List.take_length] at hst5; refine Kt_loop ⟨_, ?_, i + 1, O5, rfl, ?_⟩ <;> (repeat' apply And.intro) <;> first | omega | (simp [*]; done) | (rw [r1, r2, r3]; exact hst5) | fail)
    | fail
end
end Go.Abs
namespace Go.Abs
open Go.Proofs
set_option autoImplicit false
set_option linter.all false
set_option maxRecDepth 100000
set_option maxHeartbeats 4000000
attribute [local simp ↓] wanted_at hbind_some
attribute [local simp] Gs_true Gs_false gcond_Gr Gr_true Gr_false abox frame0 int_beq int_bne aload astore partOf Keeps Same splice aUn aFieldAddr aField aBin aBinV aConvert aExtract aLen aBuild aBuild.go aalloc AS.Ext.refl AS.Ext.bump AS.Ext.setBox
namespace LEl
mutual
theorem ris_size : ∀ e : LEl, ris e ≤ size e
  | mk o a n b => by
    have := risB_size b
    rw [ris, size]; split <;> omega
theorem risB_size : ∀ b : List (List LEl), risB b ≤ sizeB b
  | [] => by simp [risB]
  | b :: bs => by have := risL_size b; have := risB_size bs; simp [risB, sizeB]; omega
theorem risL_size : ∀ l : List LEl, risL l ≤ sizeL l
  | [] => by simp [risL]
  | e :: es => by have := ris_size e; have := risL_size es; simp [risL, sizeL]; omega
end
end LEl
theorem ris_take {l : List LEl} {i : Nat} (h : i < l.length) : LEl.risL (l.take (i + 1)) = LEl.risL (l.take i) + LEl.ris (nth l (i : Int)) := by
  rw [take_nth h, LEl.risL_append]; simp [LEl.risL]
theorem risB_take {l : List (List LEl)} {i : Nat} (h : i < l.length) : LEl.risB (l.take (i + 1)) = LEl.risB (l.take i) + LEl.risL (nth l (i : Int)) := by
  rw [take_nth h, LEl.risB_append]; simp [LEl.risB]
def RisC (l : List LEl) : Prop := ∀ (H : AS) (c : Nat), LEl.sizeL l ≤ 1048576 → ACalls Tryz.prog 19 [PV.sl c 4 (l.map (LEl.row c))] H fun q H' => q = pi (LEl.risL l : Nat) ∧ H' = H
theorem ris_of (l : List LEl) (ih : ∀ e ∈ l, ∀ b ∈ e.br, RisC b) : RisC l := by
  intro H c hn
  refine ACalls_intro Tryz.func19 rfl (by kernel_rfl) (by simp) fun hwf hbel => ?_
  have hll := LEl.length_le_size l
  repeat' first
    | refine T_seq ?_
    | refine T_rgn ?_
    | refine T_cd ?_
    | refine T_sk ?_
    | refine T_rt ?_
    | refine T_block ?_
    | refine T_ex ?_
    | refine Kt_then ?_
    | refine Kt_block ?_
    | refine Kr_then ?_
    | refine Kr_block ?_
    | refine Ke_here ?_
    | refine Ke_then ?_
    | refine Hid.mk ?_
    | refine Gs.mk (fun g => ?_) (fun g => ?_) <;> (try simp only [nm] at g) <;> try (exfalso; first | contradiction | omega)
    | refine Gr.mk (fun g => ?_) (fun g => ?_) <;> (try simp only [nm] at g) <;> try (exfalso; first | contradiction | omega)
    | (refine Run.of ?_; simp (maxSteps := 1000000) (disch := first | omega | assumption | (simp; done) | fail) [*, box_sb, LEl.len, LEl.take4, LEl.drop4, LEl.r0, LEl.r3, lenNilS, idx60, idx70, LEl.bRow, wrap_nn, wrap_i64])
  refine T_lp (fun k F H' => ∃ (i : Nat), k = l.length - i ∧ F 3 = pi (LEl.risL (l.take i) : Nat) ∧ F 8 = PV.sl c 4 (l.map (LEl.row c)) ∧ F 9 = pi l.length ∧ F 10 = pi i ∧ i ≤ l.length ∧ H.Ext H') _ ⟨0, rfl, by simp [LEl.risL], by simp, by simp, by simp, Nat.zero_le _, .refl _⟩ ?_
  rintro k F H1 ⟨i, rfl, g3, g8, g9, g10, hi, hext⟩
  have hn1 := hext.next
  have hrs := LEl.risL_size (l.take i)
  have hts : LEl.sizeL (l.take i) ≤ LEl.sizeL l := by
    have e : LEl.sizeL l = LEl.sizeL (l.take i) + LEl.sizeL (l.drop i) := by rw [← LEl.sizeL_append, List.take_append_drop]
    omega
  repeat' first
    | refine T_seq ?_
    | refine T_rgn ?_
    | refine T_cd ?_
    | refine T_sk ?_
    | refine T_rt ?_
    | refine T_block ?_
    | refine T_ex ?_
    | refine Kt_then ?_
    | refine Kt_block ?_
    | refine Kr_then ?_
    | refine Kr_block ?_
    | refine Kr_loop ?_
    | refine Ke_here ?_
    | refine Ke_then ?_
    | refine Ke_loop ?_
    | refine Ke_block ?_
    | refine Hid.mk ?_
    | refine Gs.mk (fun g => ?_) (fun g => ?_) <;> (try simp only [nm] at g) <;> try (exfalso; first | contradiction | omega)
    | refine Gr.mk (fun g => ?_) (fun g => ?_) <;> (try simp only [nm] at g) <;> try (exfalso; first | contradiction | omega)
    | (refine Run.of ?_; simp (maxSteps := 1000000) (disch := first | omega | assumption | (simp; done) | fail) [*, box_sb, LEl.len, LEl.take4, LEl.drop4, LEl.r0, LEl.r3, lenNilS, idx60, idx70, LEl.bRow, wrap_nn, wrap_i64])
  all_goals first
    | (refine Kx.mk ?_; have hii : i = l.length := (by omega); subst hii; rw [List.take_length] at g3; refine owes_one (.inr rfl) hwf rfl (by simp [*]) hext ?_ ?_ <;> (first | (simp [Frozen]; done) | (exact .val _) | (constructor <;> simp [Frozen])))
    | skip
  all_goals (
    have hst0 := size_nth (l := l) (i := i) (by assumption)
    have htk := sizeL_take (l := l) (i := i) (by assumption)
    rw [LEl.size_eq] at htk
    have hbl := LEl.lengthB_le (nth l (i : Int)).br
    refine T_lp (fun k F H' => ∃ (j : Nat), k = (nth l (i : Int)).br.length - j ∧ F 3 = pi ((LEl.risL (l.take i) + (if (nth l (i : Int)).op = 3 ∨ (nth l (i : Int)).op = 4 then 1 else 0) + LEl.risB ((nth l (i : Int)).br.take j) : Nat) : Int) ∧ F 8 = PV.sl c 4 (l.map (LEl.row c)) ∧ F 9 = pi l.length ∧ F 10 = pi i ∧ F 25 = PV.sl c 1 ((nth l (i : Int)).br.map (LEl.bRow c)) ∧ F 26 = pi (nth l (i : Int)).br.length ∧ F 27 = pi j ∧ j ≤ (nth l (i : Int)).br.length ∧ H.Ext H') _ ⟨0, rfl, ?_⟩ ?_
    · (repeat' apply And.intro) <;> first | omega | (simp [LEl.risB, *]; done) | ((repeat (first | exact AS.Ext.refl _ | assumption | refine AS.Ext.bump ?_ | refine AS.Ext.kill (by first | omega | (simp; omega) | simp) ?_ | refine AS.Ext.setBox (by first | omega | (simp; omega)) ?_)); done) | fail
    rintro k F H4 ⟨j, rfl, g3, g8, g9, g10, g25, g26, g27, hj, hx4⟩
    have hrb := LEl.risB_size ((nth l (i : Int)).br.take j)
    have hbs : LEl.sizeB ((nth l (i : Int)).br.take j) ≤ LEl.sizeB (nth l (i : Int)).br := by
      have e : LEl.sizeB (nth l (i : Int)).br = LEl.sizeB ((nth l (i : Int)).br.take j) + LEl.sizeB ((nth l (i : Int)).br.drop j) := by rw [← LEl.sizeB_append, List.take_append_drop]
      omega
    repeat' first
      | refine T_seq ?_
      | refine T_rgn ?_
      | refine T_cd ?_
      | refine T_sk ?_
      | refine T_rt ?_
      | refine T_block ?_
      | refine T_ex ?_
      | refine Kt_then ?_
      | refine Kt_block ?_
      | refine Kr_then ?_
      | refine Kr_block ?_
      | refine Kr_loop ?_
      | refine Ke_here ?_
      | refine Ke_then ?_
      | refine Ke_loop ?_
      | refine Ke_block ?_
      | refine Hid.mk ?_
      | (refine callR (ih (nth l (i : Int)) (mem_nth (by assumption)) (nth (nth l (i : Int)).br (j : Int)) (mem_nth (by assumption)) _ c (by have := sizeB_take (l := (nth l (i : Int)).br) (i := j) (by assumption); omega)) ?_; rintro _ Hz ⟨rfl, hz⟩; have hrn := LEl.risL_size (nth (nth l (i : Int)).br (j : Int)); have hsn := sizeB_take (l := (nth l (i : Int)).br) (i := j) (by assumption); subst Hz)
      | refine Gs.mk (fun g => ?_) (fun g => ?_) <;> (try simp only [nm] at g) <;> try (exfalso; first | contradiction | omega)
      | refine Gr.mk (fun g => ?_) (fun g => ?_) <;> (try simp only [nm] at g) <;> try (exfalso; first | contradiction | omega)
      | (refine Run.of ?_; simp (maxSteps := 1000000) (disch := first | omega | assumption | (simp; done) | fail) [*, box_sb, LEl.len, LEl.take4, LEl.drop4, LEl.r0, LEl.r3, lenNilS, idx60, idx70, LEl.bRow, wrap_nn, wrap_i64])
    all_goals first
      | (refine Kt_loop ⟨_, ?_, j + 1, rfl, ?_⟩ <;> (repeat' apply And.intro) <;> first | omega | (simp [*]; done) | (rw [risB_take (by assumption)]; simp [*]; omega) | fail)
      | (have hjj : j = (nth l (i : Int)).br.length := (by omega); refine Kt_loop ⟨_, ?_, i + 1, rfl, ?_⟩ <;> (repeat' apply And.intro) <;> first | omega | (simp [*]; done) | (rw [ris_take (by assumption), LEl.ris_eq]; rw [hjj, List.take_length] at g3; simp [*]; try omega) | fail)
      | fail)
mutual
theorem ris_items : ∀ (e : LEl), ∀ b ∈ e.br, RisC b
  | .mk o p nm br => ris_rows br
theorem ris_rows : ∀ (br : List (List LEl)), ∀ b ∈ br, RisC b
  | [] => by simp
  | x :: br => by
    have h1 := ris_of x (ris_list x)
    have h2 := ris_rows br
    intro b hb
    rcases List.mem_cons.1 hb with rfl | hb
    · exact h1
    · exact h2 b hb
theorem ris_list : ∀ (l : List LEl), ∀ e ∈ l, ∀ b ∈ e.br, RisC b
  | [] => by simp
  | x :: l => by
    have h1 := ris_items x
    have h2 := ris_list l
    intro e he
    rcases List.mem_cons.1 he with rfl | he
    · exact h1
    · exact h2 e he
end
theorem xRisen (l : List LEl) : RisC l := ris_of l (ris_list l)
theorem under29 : ∃ ms, Tryz.prog.underlying 29 = some (.interface ms) := ⟨_, Tryz.underlying29⟩
theorem nil29 : aNilTest Tryz.prog 29 (.val .nilIface) (.val .nilIface) = [true] := by
  obtain ⟨ms, h⟩ := under29
  unfold aNilTest; rw [h]
theorem risL_rung {g : LRg} (h : g.good) : LEl.risL g.con = rungE g := (LEl.edgL_ris g.con h.ok).symm
theorem ladE_take {l : List LRg} {i : Nat} (h : i < l.length) : ladE (l.take (i + 1)) = ladE (l.take i) + rungE (nth l (i : Int)) := by
  rw [take_nth h, ladE_append]; simp [ladE]
theorem ladC_take {l : List LRg} {i : Nat} (h : i < l.length) : ladC (l.take (i + 1)) = ladC (l.take i) + (nth l (i : Int)).coils.length := by
  rw [take_nth h, ladC_append]; simp [ladC]
theorem lawEdges (H : AS) (s : ByteArray) (hcol : H.color < 2) : ACalls Tryz.prog 4 [ps s] H fun q H' => q = pb true ∧ H' = H := by
  refine ACalls_intro Tryz.func4 rfl (by kernel_rfl) (by simp) fun hwf hbel => ?_
  repeat' first
    | refine T_seq ?_
    | refine T_rgn ?_
    | refine T_cd ?_
    | refine T_sk ?_
    | refine T_rt ?_
    | refine T_block ?_
    | refine T_ex ?_
    | refine Kt_then ?_
    | refine Kt_block ?_
    | refine Kr_then ?_
    | refine Kr_block ?_
    | refine Ke_here ?_
    | refine Ke_then ?_
    | refine Hid.mk ?_
    | (refine callR (rLadder _ _ (by simp [*])) ?_; rintro _ Hz ⟨⟨l, la, le, rfl, hgd, hsz⟩, hz⟩; have hll := rgS_length l; have hle := lad_le l; subst Hz)
    | (refine callR (xRungs _ H.color l (by omega)) ?_; rintro _ Hz ⟨rfl, hz⟩; subst Hz)
    | (refine callR (xLadder _ H.color l (by simp [*]) hgd (by omega)) ?_; rintro _ Hz ⟨rfl, hz⟩; subst Hz)
    | refine Gs.mk (fun g => ?_) (fun g => ?_) <;> (try simp only [nm] at g) <;> try (exfalso; first | contradiction | omega)
    | refine Gr.mk (fun g => ?_) (fun g => ?_) <;> (try simp only [nm] at g) <;> try (exfalso; first | contradiction | omega)
    | (refine Run.of ?_; simp (maxSteps := 1000000) (disch := first | omega | assumption | (simp; done) | fail) [*, box_sb, lenNilS, idx55, idx60, wrap_nn, wrap_i64, LRg.row_eq, ladS_length, ladV_length, nil29])
  refine T_lp (fun k F H' => ∃ (i : Nat), k = l.length - i ∧ F 3 = PV.sl H.color 3 (l.map (LRg.row H.color)) ∧ F 6 = PV.sl H.color 14 ((ladS 0 0 l).map (LSt.row H.color)) ∧ F 7 = PV.sl H.color 16 ((ladV 0 0 l).map LVr.row) ∧ F 8 = .val .nilIface ∧ F 9 = pi (ladE (l.take i) : Nat) ∧ F 10 = pi (ladC (l.take i) : Nat) ∧ F 26 = PV.sl H.color 3 (l.map (LRg.row H.color)) ∧ F 27 = pi l.length ∧ F 28 = pi i ∧ i ≤ l.length ∧ H.Ext H') _ ⟨0, rfl, ?_⟩ ?_
  · (repeat' apply And.intro) <;> first | (exact Nat.zero_le _) | (exact .refl _) | (simp [ladE, ladC]; done) | fail
  rintro k F H1 ⟨i, rfl, g3, g6, g7, g8, g9, g10, g26, g27, g28, hi, hext⟩
  have hn1 := hext.next
  have hlt := lad_le (l.take i)
  have hts : rgS (l.take i) ≤ rgS l := by
    have e : rgS l = rgS (l.take i) + rgS (l.drop i) := by rw [← rgS_append, List.take_append_drop]
    omega
  repeat' first
    | refine T_seq ?_
    | refine T_rgn ?_
    | refine T_cd ?_
    | refine T_sk ?_
    | refine T_rt ?_
    | refine T_block ?_
    | refine T_ex ?_
    | refine Kt_then ?_
    | refine Kt_block ?_
    | refine Kr_then ?_
    | refine Kr_block ?_
    | refine Kr_loop ?_
    | refine Ke_here ?_
    | refine Ke_then ?_
    | refine Ke_loop ?_
    | refine Ke_block ?_
    | refine Hid.mk ?_
    | (refine callR (xRisen (nth l (i : Int)).con _ H.color (by have := rgS_nth (l := l) (i := i) (by assumption); omega)) ?_; rintro _ Hz ⟨rfl, hz⟩; have hrr := risL_rung (hgd _ (mem_nth (by assumption))); have hrt := rgS_take (l := l) (i := i) (by assumption); have hrs := LEl.risL_size (nth l (i : Int)).con; have hcl := LEl.length_le_size (nth l (i : Int)).coils; subst Hz)
    | refine Gs.mk (fun g => ?_) (fun g => ?_) <;> (try simp only [nm] at g) <;> try (exfalso; first | contradiction | omega)
    | refine Gr.mk (fun g => ?_) (fun g => ?_) <;> (try simp only [nm] at g) <;> try (exfalso; first | contradiction | omega)
    | (refine Run.of ?_; simp (maxSteps := 1000000) (disch := first | omega | assumption | (simp; done) | fail) [*, box_sb, lenNilS, idx55, idx60, wrap_nn, wrap_i64, LRg.row_eq, ladS_length, ladV_length, nil29])
  all_goals first
    | (refine Kx.mk ?_; have hii : i = l.length := (by omega); subst hii; rw [List.take_length] at *; refine owes_one (.inr rfl) hwf rfl ?_ hext ?_ ?_ <;> (first | (simp [*]; done) | (simp [*]; omega) | (constructor <;> simp [Frozen])))
    | (refine Kt_loop ⟨_, ?_, i + 1, rfl, ?_⟩ <;> (repeat' apply And.intro) <;> first | omega | (simp [*]; done) | ((repeat (first | exact AS.Ext.refl _ | assumption | refine AS.Ext.bump ?_ | refine AS.Ext.kill (by first | omega | (simp; omega) | simp) ?_ | refine AS.Ext.setBox (by first | omega | (simp; omega)) ?_)); done) | (rw [ladE_take (by assumption)]; simp [*]; try omega) | (rw [ladC_take (by assumption)]; simp [*]; try omega) | fail)
    | fail
end Go.Abs
namespace Go.Proofs.YthabhakehajjnaaGreatDoor
open Go.ChangeShapes Go.WideShapes Go.ChangeAt Go.RowKit Go.Abs
set_option maxRecDepth 100000
theorem own_ : ownKnob Tryz.prog.godebug = none := by kernel_rfl
theorem laid_ : laidOutB Tryz.prog = true := by kernel_rfl
theorem readable9 : Tryz.prog.readableRec 9 = true := by kernel_rfl
theorem readable3 : Tryz.prog.readableRec 3 = true := by kernel_rfl
def laids : List (String × DataW Unit) := Rows.graphcoreEdgesRow.laid
theorem gPow : Tryz.prog.globalNamed "internal/strconv.uint64pow10" = some 0 := by kernel_rfl
theorem cells_at {W : World} {n : String} {g : Nat} {cs : Array Value} (hg : Tryz.prog.globalNamed n = some g) (h : W.var? Tryz.prog n = some cs) : ∃ t fz, W.heap[g]? = some (.cells cs t fz) := by
  unfold World.var? at h
  rw [hg] at h
  simp only [Option.bind_some] at h
  split at h
  · rename_i cs' t fz e
    cases h
    exact ⟨t, fz, e⟩
  · cases h
theorem maxCell {W : World} (h : W.ShapedOpen Tryz.prog) : intCell W 1 := by
  obtain ⟨m, hm⟩ := Go.Proofs.cell_of_shapedOpen_int (zero := #[.int .i64 0]) (t := 3) h (g := 1) (of_decide_eq_true (by kernel_rfl)) (by kernel_rfl) rfl (by kernel_rfl) (by kernel_rfl) Tryz.underlying3
  unfold World.cell? at hm
  split at hm
  · rename_i cs t fz e
    exact ⟨m, cs, t, fz, e, hm⟩
  · cases hm
theorem amb {W : World} (h : laidMetH Tryz.prog laids W) (hs : W.ShapedOpen Tryz.prog) : ambient W := by
  rw [MakeChecks.laidMetH_plain _ _ _ (by kernel_rfl)] at h
  obtain ⟨ps, ⟨g0, t0, cs0, f0, p0, q0, hg0, ht0, hv0, hd0, ⟨g1, t1, cs1, f1, p1, q1, hg1, ht1, hv1, hd1, ⟨g2, t2, cs2, f2, p2, q2, hg2, ht2, hv2, hd2, _, _⟩, _⟩, _⟩, _, _⟩ := h
  obtain rfl := Option.some.inj (gPow.symm.trans hg2)
  obtain rfl := Option.some.inj ((show (Tryz.prog.globals[0]?).map (·.type) = some 219 by kernel_rfl).symm.trans ht2)
  have hcs := Lib.cells_of_tab (k := .u64) (zs := Lib.pow10Tab) Tryz.underlying219 Tryz.underlying117 (by kernel_rfl) (by kernel_rfl) hd2
  obtain ⟨t, fz, hh⟩ := cells_at gPow hv2
  refine ⟨⟨t, fz, ?_⟩, maxCell hs⟩
  rw [hh]
  congr 2
  exact Array.ext' hcs
theorem laid_met (os : Os) (args : Array Value) : laidMet Tryz.prog laids ((World.doorLaid Tryz.prog 2000 os).forCall (fun _ _ => 0) ⟨#[], args, []⟩).memory :=
  laidMet_of_run' 8 (by kernel_rfl) (by kernel_rfl)
theorem trod_true {H : Type} (enc : TypeId × Value → H) (w : World) (base : Nat) (sp : Nat → Bool) (hd : Bool) : DataW.Trod enc Tryz.prog w base sp hd 4 (.bool true) (.lit (.bool true)) [] := ⟨1, by simp [DataW.trod, Tryz.underlying4, Value.cells]⟩
end Go.Proofs.YthabhakehajjnaaGreatDoor
