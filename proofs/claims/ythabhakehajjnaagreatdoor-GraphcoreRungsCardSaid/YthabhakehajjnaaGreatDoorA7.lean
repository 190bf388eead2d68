/- Texts of ours, merged: the abstract layer, the walks over the loaded functions, the plain laws. -/
import Derived.Test.YthabhakehajjnaaGreatDoorA6
import Derived.Test.YthabhakehajjnaaGreatDoorA3
namespace Go.Abs
open Go.Proofs
set_option autoImplicit false
set_option linter.all false
set_option maxRecDepth 100000
set_option maxHeartbeats 40000000
section
set_option maxHeartbeats 4000000
attribute [local simp ↓] wanted_at hbind_some
attribute [local simp] Gs_true Gs_false gcond_Gr Gr_true Gr_false abox frame0 int_beq int_bne aload astore partOf Keeps Same splice aUn aFieldAddr aField aBin aBinV aConvert aExtract aLen aBuild aBuild.go aalloc AS.Ext.refl AS.Ext.bump AS.Ext.setBox
/-- The document's state between rungs. -/
structure LaY (H : AS) (S : List LSt) (V : List LVr) (n : Nat) (H' : AS) (O' : Nat → Prop) : Prop where
  km : MyE H' O' H.next H.color n S V
  ext : H.Ext H'
  own : ∀ j, O' j → H.next ≤ j
theorem LaY.color {H : AS} {S : List LSt} {V : List LVr} {n : Nat} {H' : AS} {O' : Nat → Prop} (h : LaY H S V n H' O') : H'.color = H.color := h.ext.color
theorem LaY.ext' {H : AS} {S : List LSt} {V : List LVr} {n : Nat} {H' M : AS} {O' : Nat → Prop} (h : LaY H S V n H' O') (he : H'.Ext M) : LaY H S V n M O' :=
  ⟨h.km.ext he, h.ext.trans he, h.own⟩
theorem LaY.made {H : AS} {S S2 : List LSt} {V V2 : List LVr} {n n2 : Nat} {H' H2 : AS} {O' O2 : Nat → Prop} (h : LaY H S V n H' O') (hk : MyE H2 O2 H.next H.color n2 S2 V2) (hd : Made O' O2 H' H2) : LaY H S2 V2 n2 H2 O2 := by
  have hn := h.ext.next
  refine ⟨hk, ⟨Nat.le_trans hn hd.next, fun j hj => ?_, fun j hj => ?_, by rw [hd.color, h.color]⟩, fun j ho => ?_⟩
  · rw [hd.box j (by omega) fun ho => by have := h.own j ho; omega]; exact h.ext.box j hj
  · rw [hd.mp j (by omega)]; exact h.ext.mp j hj
  · rcases hd.own j ho with h1 | h1
    · exact h.own j h1
    · omega
theorem LaY.eds {H : AS} {S : List LSt} {V : List LVr} {n : Nat} {H' M H2 : AS} {O' O2 : Nat → Prop} {p : Int} {E : List LEl} (h : LaY H S V n H' O') (he : H'.Ext M) (hs : EdY M O' H.next S V p n E H2 O2) :
    LaY H (S ++ edgesS p n E) (V ++ edgesV n E) (n + E.length) H2 O2 := by
  have h1 := h.ext' he
  exact h1.made (by have := hs.km; rwa [h1.color] at this) hs.md
theorem lay_zero {H M : AS} (he : H.Ext M) (h0 : M.box H.next = some [[pi 0, .nil, .nil]]) (hn : H.next < M.next) : LaY H [] [] 0 M fun j => j = H.next := by
  have hk : My M (fun j => j = H.next) H.next H.color 0 [] [] .nil .nil :=
    { box := h0, s := .nil, v := .nil, own := fun j => ⟨fun h => .inl h, fun h => h.resolve_right (by rintro (⟨_, _, h⟩ | ⟨_, _, h⟩) <;> cases h)⟩, ne := fun j n s n' s' e => (nomatch e), n1 := fun n s e => (nomatch e), n2 := fun n s e => (nomatch e), lt := by omega }
  exact ⟨⟨_, _, hk⟩, he, fun j h => by omega⟩
theorem Off.newY {O : Nat → Prop} {H : AS} {id c n : Nat} {S : List LSt} {V : List LVr} (h : MyE H O id c n S V) {H' : AS} {j : Nat} {rows : List (List PV)} (hj : H.next ≤ j) (hb : H'.box j = some rows) (hl : j < H'.next) : Off O H' j rows :=
  ⟨hb, hl, fun ho => by have := h.olt ho; omega⟩
/-- What was made, answered. -/
theorem owes_my {P : Program} {H : AS} {fn : Func} {R : PV → AS → Prop} {l : List ResultVar} {F' : AF} {H' : AS} {e : Exit} {O : Nat → Prop} {n : Nat} {S : List LSt} {V : List LVr} {p1 p2 : PV} (he : e = .normal ∨ e = .ret) (hwf : WF H) (hl : fn.results.toList = l)
    (hm : My H' O H.next H.color n S V p1 p2) (hext : H.Ext H') (hown : ∀ j, O j → H.next ≤ j) (hr : resP P F' H' l fun rs => rs = [p1, p2])
    (hR : R (.tuple [PV.sl H.color 14 (S.map (LSt.row H.color)), PV.sl H.color 16 (V.map LVr.row)]) H) : Owes P fn H R e F' H' := by
  obtain ⟨rs, h1, rfl⟩ := resP_res hr
  have o1 : OutIs H.next H' p1 14 (S.map (LSt.row H.color)) := hm.s.raise fun j n s e => hown j ((hm.own j).2 (.inr (.inl ⟨n, s, e⟩)))
  have o2 : OutIs H.next H' p2 16 (V.map LVr.row) := hm.v.raise fun j n s e => hown j ((hm.own j).2 (.inr (.inr ⟨n, s, e⟩)))
  obtain ⟨Ha, ha, hn, hc, hb, hmp, hab⟩ := frz_out' o1
  have o3 : OutIs H.next Ha p2 16 (V.map LVr.row) := by
    rcases o2 with ⟨h1, h2⟩ | ⟨j, h1, h2, h3, h4⟩
    · exact .inl ⟨h1, h2⟩
    · exact .inr ⟨j, h1, by omega, h3, by rw [hb j fun n s e => hm.ne j n s _ _ e h3]; exact h4⟩
  obtain ⟨Hb, hb', hn2, hc2, _, _, hab2⟩ := frz_out' o3
  have hz : frzVs H' [p1, p2] = ([PV.sl H'.color 14 (S.map (LSt.row H.color)), PV.sl Ha.color 16 (V.map LVr.row)], Hb) := by
    have e1 : frzV H' p1 = (PV.sl H'.color 14 (S.map (LSt.row H.color)), Ha) := by rw [o1.frzV]; exact ha
    have e2 : frzV Ha p2 = (PV.sl Ha.color 16 (V.map LVr.row), Hb) := by rw [o3.frzV]; exact hb'
    simp only [frzVs, e1, e2]
  refine ⟨he, ?_⟩
  rw [hl, h1]
  refine ⟨H, Nat.le_refl _, ?_, hwf, ?_, ?_⟩
  · rw [hz]; exact hab2 H (Nat.le_refl _) (hab H (Nat.le_refl _) hext)
  · rw [hz]
    intro p hp
    simp only [List.mem_cons, List.not_mem_nil, or_false] at hp
    rcases hp with rfl | rfl
    · rw [below_sl]; exact LSt.rows_below _ _ _
    · rw [below_sl]; intro r hr p hp
      obtain ⟨v, _, rfl⟩ := List.mem_map.1 hr
      exact lvr_below _ _ p hp
  · rw [hz, hc, hext.color]; exact hR
theorem yHiddenR (H : AS) (i : Nat) (hn : i < 1073741820) : ACalls Tryz.prog 40 [ps ⟨#[82]⟩, pi ((i : Int) + 1)] H fun q H' => q = ps (hR (i + 1)) ∧ H' = H := by
  rw [show ((i : Int) + 1) = ((i + 1 : Nat) : Int) by omega]; exact yHidden H 82 (i + 1) (by omega)
theorem rgS_takeLe (l : List LRg) (m : Nat) : rgS (l.take m) ≤ rgS l := by
  have e : rgS l = rgS (l.take m) + rgS (l.drop m) := by rw [← rgS_append, List.take_append_drop]
  omega
theorem yLadder (H : AS) (c : Nat) (l : List LRg) (hc : c = H.color) (hgd : ∀ g ∈ l, g.good) (hsz : rgS l ≤ 1048576) : ACalls Tryz.prog 20 [PV.sl c 3 (l.map (LRg.row c))] H fun q H' => q = .tuple [PV.sl H.color 14 ((ladS 0 0 l).map (LSt.row H.color)), PV.sl H.color 16 ((ladV 0 0 l).map LVr.row)] ∧ H' = H := by
  subst hc
  refine ACalls_intro Tryz.func20 rfl (by kernel_rfl) (by simp) fun hwf hbel => ?_
  have hll := rgS_length l
  repeat' first
    | refine T_seq ?_
    | refine T_rgn ?_
    | refine T_cd ?_
    | refine T_sk ?_
    | refine T_rt ?_
    | refine T_block ?_
    | refine T_ex ?_
    | refine Kt_then ?_
    | refine Kt_block ?_
    | refine Kr_then ?_
    | refine Kr_block ?_
    | refine Ke_here ?_
    | refine Ke_then ?_
    | refine Hid.mk ?_
    | refine Gs.mk (fun g => ?_) (fun g => ?_) <;> (try simp only [nm] at g) <;> try (exfalso; first | contradiction | omega)
    | refine Gr.mk (fun g => ?_) (fun g => ?_) <;> (try simp only [nm] at g) <;> try (exfalso; first | contradiction | omega)
    | (refine Run.of ?_; simp (maxSteps := 1000000) (disch := first | omega | assumption | (simp; done) | fail) [*, box_sb, lenNilS, idx55, idx60, wrap_nn, wrap_i64, LEl.len, LEl.take4, LEl.drop4, LEx.len, LEx.take14, LEx.drop14, frzVs_color, color_kill, LSt.len, LSt.take14, wk_two, aStep_eq, LRg.row_eq, idx26, LSt.ok])
  refine T_lp (fun k F H' => ∃ (i : Nat) (O1 : Nat → Prop), k = l.length - i ∧ F 4 = .ptr H.next 1 0 0 ∧ F 15 = PV.sl H.color 3 (l.map (LRg.row H.color)) ∧ F 16 = pi l.length ∧ F 17 = pi i ∧ i ≤ l.length ∧ LaY H (ladS 0 0 (l.take i)) (ladV 0 0 (l.take i)) (ladE (l.take i)) H' O1) _ ⟨0, fun j => j = H.next, rfl, by simp, by simp, by simp, by simp, Nat.zero_le _, by simpa [ladS, ladV, ladE] using lay_zero (by (repeat (first | exact AS.Ext.refl _ | assumption | refine AS.Ext.bump ?_ | refine AS.Ext.kill (by first | omega | (simp; omega) | simp) ?_ | refine AS.Ext.setBox (by first | omega | (simp; omega)) ?_)); done) (by simp) (by simp)⟩ ?_
  rintro k F H1 ⟨i, O1, rfl, g4, g15, g16, g17, hi, hst⟩
  have hc1 := hst.color
  have hidl := hst.km.olt hst.km.oid
  have e1 : ¬ H.next = H1.next := by omega
  have e2 : ¬ H1.next = H.next := by omega
  obtain ⟨r1, r2, hm1⟩ := hst.km
  have bm1 := hm1.box
  have hE1 := lad_le (l.take i)
  have hE2 := rgS_takeLe l i
  repeat' first
    | refine T_seq ?_
    | refine T_rgn ?_
    | refine T_cd ?_
    | refine T_sk ?_
    | refine T_rt ?_
    | refine T_block ?_
    | refine T_ex ?_
    | refine Kt_then ?_
    | refine Kt_block ?_
    | refine Kr_then ?_
    | refine Kr_block ?_
    | refine Kr_loop ?_
    | refine Ke_here ?_
    | refine Ke_then ?_
    | refine Ke_loop ?_
    | refine Ke_block ?_
    | refine Hid.mk ?_
    | (refine T_rj 9 (fun F H' => ∃ (O3 : Nat → Prop), F 4 = .ptr H.next 1 0 0 ∧ F 15 = PV.sl H.color 3 (l.map (LRg.row H.color)) ∧ F 16 = pi l.length ∧ F 17 = pi i ∧ F 6 = .ptr H1.next 1 0 0 ∧ F 10 = ps (hR (i + 1)) ∧ MyE H' O3 H.next H.color n2 (S2 ++ [(sSet (nth l (i : Int)).pos (xNam (hR (i + 1)) (nth l (i : Int)).pos) (LEl.conL (nth l (i : Int)).pos (ladE (l.take i)) (nth l (i : Int)).con).1)]) V2 ∧ Made O2 O3 H2 H') ?_ ?_)
    | (refine Kt_thenK ?_; (obtain ⟨O5, k5, d5⟩ := my_put (T := [(sSet (nth l (i : Int)).pos (xNam (hR (i + 1)) (nth l (i : Int)).pos) (LEl.conL (nth l (i : Int)).pos (ladE (l.take i)) (nth l (i : Int)).con).1)]) hm (by (repeat (first | exact AS.Ext.refl _ | assumption | refine AS.Ext.bump ?_ | refine AS.Ext.kill (by first | omega | (simp; omega) | simp) ?_ | refine AS.Ext.setBox (by first | omega | (simp; omega)) ?_)); done) hout6 (by simp) hel6 hpl (by simp); simp only [List.map_append, List.map_cons, List.map_nil] at k5 d5; (try simp only [setBox_comm hjid2, setBox_setBox']); refine ⟨O5, ?_⟩; (repeat' apply And.intro) <;> first | (simp [*]; done) | exact k5 | exact d5 | fail))
    | (refine Mm.mk ?_; rintro F Hn ⟨O3, g4, g15, g16, g17, g6, g10, hk3, hd3⟩; have hst3 := hst2.made hk3 hd3; obtain ⟨q1, q2, hm3⟩ := hk3; have bm3 := hm3.box; have fx3 := fx2.made hd3; have bx3 := fx3.box; rw [LRg.row_eq] at bx3; have lx3 := fx3.lt; have hc3 := hst3.color; have hid3 := hm3.lt; have i5 : ¬ H.next = Hn.next := (by omega); have i6 : ¬ H1.next = Hn.next := (by omega); have i7 : ¬ Hn.next = H.next := (by omega); have i8 : ¬ Hn.next = H1.next := (by omega); have i11 : ¬ H.next = Hn.next + 1 := (by omega); have i12 : ¬ H1.next = Hn.next + 1 := (by omega))
    | refine Ke_thenK ?_
    | refine T_dr (id := 9) (fun j => j = H.next ∨ j = H1.next ∨ j = H2.next) [16, 19] (.free 0 (.free 1 (.free 2 (.free 3 (.free 4 (.free 5 (.free 6 (.free 8 (.free 9 (.free 10 (.free 12 (.two 7 13 (.two 11 13 (.sole 13 (.sole 14 (.free 15 (.free 17 (.free 18 (.two 16 19 (.sole 19 .done) (.sole 16 .done))))))) (.sole 11 (.sole 14 (.free 15 (.free 17 (.free 18 (.two 16 19 (.sole 19 .done) (.sole 16 .done)))))))) (.sole 7 (.sole 11 (.sole 14 (.free 15 (.free 17 (.free 18 (.two 16 19 (.sole 19 .done) (.sole 16 .done)))))))))))))))))))) mix ?_
    | refine T_dr (id := 10) (fun j => j = H.next ∨ j = H1.next) [11] (.free 0 (.free 1 (.free 2 (.free 3 (.free 4 (.free 5 (.sole 6 (.sole 7 (.sole 8 (.free 9 (.free 10 (.sole 11 .done)))))))))))) mix ?_
    | refine And.intro (fun _ h1 h2 => absurd h2 h1) ?_
    | (refine callR (yRises (nth l (i : Int)).con (hgd _ (mem_nth (by assumption))).nm _ O1 H.next (ladE (l.take i)) (ladS 0 0 (l.take i)) (ladV 0 0 (l.take i)) H.color (nth l (i : Int)).pos (by simp [*]) ((hst.ext' (by (repeat (first | exact AS.Ext.refl _ | assumption | refine AS.Ext.bump ?_ | refine AS.Ext.kill (by first | omega | (simp; omega) | simp) ?_ | refine AS.Ext.setBox (by first | omega | (simp; omega)) ?_)); done)).km) (lad_b1 (by assumption) hsz) (lad_b2 (by assumption) hsz) (by have h1 := lad_b3 (l := l) (i := i) (by assumption) hsz; have h2 := rgS_take (l := l) (i := i) (by assumption); omega)) ?_; rintro _ H2 ⟨rfl, O2, hs2⟩; obtain ⟨S2, hS2⟩ : ∃ S2 : List LSt, S2 = (ladS 0 0 (l.take i)) ++ edgesS (nth l (i : Int)).pos (ladE (l.take i)) (LEl.edgL (nth l (i : Int)).con) := ⟨_, rfl⟩; obtain ⟨V2, hV2⟩ : ∃ V2 : List LVr, V2 = (ladV 0 0 (l.take i)) ++ edgesV (ladE (l.take i)) (LEl.edgL (nth l (i : Int)).con) := ⟨_, rfl⟩; obtain ⟨n2, hn2⟩ : ∃ n2, n2 = (ladE (l.take i)) + (LEl.edgL (nth l (i : Int)).con).length := ⟨_, rfl⟩; have hS2l : S2.length < 268435456 := (by have h1 := lad_b1 (l := l) (i := i) (by assumption) hsz; have h2 := LEl.edgL_size (nth l (i : Int)).con; rw [hS2]; simp only [List.length_append, edgesS_length]; omega); have hV2l : V2.length < 268435456 := (by have h1 := lad_b2 (l := l) (i := i) (by assumption) hsz; have h2 := LEl.edgL_size (nth l (i : Int)).con; rw [hV2]; simp only [List.length_append, edgesV_length]; omega); have hst2 := hst.eds (by (repeat (first | exact AS.Ext.refl _ | assumption | refine AS.Ext.bump ?_ | refine AS.Ext.kill (by first | omega | (simp; omega) | simp) ?_ | refine AS.Ext.setBox (by first | omega | (simp; omega)) ?_)); done) hs2; have fx2 : Off O2 H2 H1.next [(nth l (i : Int)).row H.color] := (Off.newY hst.km (Nat.le_refl _) (by rw [LRg.row_eq]; simp) (by simp)).made hs2.md; rw [← hS2, ← hV2, ← hn2] at hst2; have iS2 := Is.mk hS2; have iV2 := Is.mk hV2; have in2 := Is.mk hn2; clear hS2 hV2 hn2; obtain ⟨p1, p2, hm⟩ := hst2.km; have hln := outLen' hm.s; simp only [List.length_map] at hln; have bm2 := hm.box; have bx2 := fx2.box; rw [LRg.row_eq] at bx2; have lx2 := fx2.lt; have hc2 := hst2.color; have hid2 := hm.lt; have i1 : ¬ H.next = H2.next := (by omega); have i2 : ¬ H1.next = H2.next := (by omega); have i3 : ¬ H2.next = H.next := (by omega); have i4 : ¬ H2.next = H1.next := (by omega); have i9 : ¬ H.next = H2.next + 1 := (by omega); have i10 : ¬ H1.next = H2.next + 1 := (by omega))
    | (refine bs_one under27 Tryz.sz111 Tryz.zero111 rfl rfl (by decide) (by rfl) ?_; simp (disch := first | omega | assumption | (simp; done) | fail) [*])
    | (refine bs_one under26 Tryz.sz51 Tryz.zero51 rfl rfl (by decide) (by rfl) ?_; simp (disch := first | omega | assumption | (simp; done) | fail) [*])
    | (refine eitherK.raw ?_; simp (maxSteps := 1000000) (disch := first | omega | assumption | (simp; done) | fail) [*, box_sb, lenNilS, idx55, idx60, wrap_nn, wrap_i64, LEl.len, LEl.take4, LEl.drop4, LEx.len, LEx.take14, LEx.drop14, frzVs_color, color_kill, LSt.len, LSt.take14, wk_two, aStep_eq, LRg.row_eq, idx26, LSt.ok])
    | (refine app_raw (lo := 0) (rows := ((S2).map (LSt.row H.color))) ((hm.ext ?_).s) (Nat.zero_le _) under26 Tryz.sz51 Tryz.zero51 Tryz.by51 rfl rfl (by decide) (box_sb _ _ _ _) ?_ ?_; (focus ((repeat (first | exact AS.Ext.refl _ | assumption | refine AS.Ext.bump ?_ | refine AS.Ext.kill (by first | omega | (simp; omega) | simp) ?_ | refine AS.Ext.setBox (by first | omega | (simp; omega)) ?_)); done)); (focus (simp [*]; omega)); rintro p3 H6 hout6 hab6 hel6; obtain ⟨jl, hjl, hpl, hbl⟩ := hout6.msl (by simp); simp only [List.length_append, List.length_map, List.length_cons, List.length_nil, Nat.zero_add, Nat.reduceAdd] at hpl; have hjid : ¬ jl = H.next := (by rcases hel6.own jl _ _ hpl with ⟨m, s1, e⟩ | h1; (intro e1; subst e1; exact hm.n1 _ _ e); (simp at h1; omega)); have hjid2 : ¬ H.next = jl := (fun e => hjid e.symm); have hb6 : H6.box H.next = some [[pi (n2 : Nat), p1, p2]] := (by rw [hel6.box H.next (by simp; omega) hm.n1]; simp [*]); have kx : H6.box H1.next = some [[pi (nth l (i : Int)).pos, PV.sl H.color 4 ((nth l (i : Int)).con.map (LEl.row H.color)), PV.sl H.color 4 ((nth l (i : Int)).coils.map (LEl.row H.color))]] := (by rw [hel6.box H1.next (by simp; omega) (fun n s e => absurd ((hm.own _).2 (.inr (.inl ⟨_, _, e⟩))) fx2.off)]; simp [*]); have ky : H6.box H2.next = some [(LEl.conL (nth l (i : Int)).pos (ladE (l.take i)) (nth l (i : Int)).con).1.row H.color] := (by rw [hel6.box H2.next (by simp; omega) (fun n s e => (by have := hm.s.at_lt e; omega))]; simp [*]); have hc6 : H6.color = H.color := (by rw [hel6.color]; simp [*]); have a0 := stSt (n := S2.length) H.color (sSet (nth l (i : Int)).pos (xNam (hR (i + 1)) (nth l (i : Int)).pos) (LEl.conL (nth l (i : Int)).pos (ladE (l.take i)) (nth l (i : Int)).con).1) hbl (by simp) rfl; have a1 := fun r => stSt (H := H6.setBox H.next r) (j := jl) (n := S2.length) H.color (sSet (nth l (i : Int)).pos (xNam (hR (i + 1)) (nth l (i : Int)).pos) (LEl.conL (nth l (i : Int)).pos (ladE (l.take i)) (nth l (i : Int)).con).1) (by rw [box_setBox, if_neg hjid]; exact hbl) (by simp) rfl)
    | (refine app_raw (lo := 0) (rows := V2.map LVr.row) ((hm3.ext ?_).v) (Nat.zero_le _) under27 Tryz.sz111 Tryz.zero111 Tryz.by111 rfl rfl (by decide) (box_sb _ _ _ _) ?_ ?_; (focus ((repeat (first | exact AS.Ext.refl _ | assumption | refine AS.Ext.bump ?_ | refine AS.Ext.kill (by first | omega | (simp; omega) | simp) ?_ | refine AS.Ext.setBox (by first | omega | (simp; omega)) ?_)); done)); (focus (simp; omega)); rintro p7 H7 hout7 hab7 hel7; have hb7 : H7.box H.next = some [[pi (n2 : Nat), q1, q2]] := (by rw [hel7.box H.next (by simp; omega) hm3.n2]; simp [*]); have kz : H7.box H1.next = some [[pi (nth l (i : Int)).pos, PV.sl H.color 4 ((nth l (i : Int)).con.map (LEl.row H.color)), PV.sl H.color 4 ((nth l (i : Int)).coils.map (LEl.row H.color))]] := (by rw [hel7.box H1.next (by simp; omega) (fun n s e => absurd ((hm3.own _).2 (.inr (.inr ⟨_, _, e⟩))) fx3.off)]; simp [*]); have hp7c := hout7.cells; have hp7k := hout7.okCells; have hc7 : H7.color = H.color := (by rw [hel7.color]; simp [*]))
    | refine And.intro ?_ ?_
    | (refine callR (yConL (nth l (i : Int)).con (hgd _ (mem_nth (by assumption))).nm _ H.color (nth l (i : Int)).pos (ladE (l.take i)) (by simp [*]) (by have h2 := rgS_take (l := l) (i := i) (by assumption); omega)) ?_; rintro _ Hz ⟨rfl, hz⟩; subst Hz)
    | (refine callR (yHiddenR _ i (by omega)) ?_; rintro _ Hz ⟨rfl, hz⟩; subst Hz)
    | (refine callR (yNamed _ _ _) ?_; rintro _ Hz ⟨rfl, hz⟩; subst Hz)
    | (refine callR (ySet_ _ (nth l (i : Int)).pos H.color (xNam (hR (i + 1)) (nth l (i : Int)).pos) (LEl.conL (nth l (i : Int)).pos (ladE (l.take i)) (nth l (i : Int)).con).1 (by simp [*])) ?_; rintro _ Hz ⟨rfl, hz⟩; subst Hz)
    | (refine callR (yVar _ (hR (i + 1)) 5) ?_; rintro _ Hz ⟨rfl, hz⟩; subst Hz)
    | refine Gs.mk (fun g => ?_) (fun g => ?_) <;> (try simp only [nm] at g) <;> try (exfalso; first | contradiction | omega)
    | refine Gr.mk (fun g => ?_) (fun g => ?_) <;> (try simp only [nm] at g) <;> try (exfalso; first | contradiction | omega)
    | (refine Run.of ?_; simp (maxSteps := 1000000) (disch := first | omega | assumption | (simp; done) | fail) [*, box_sb, lenNilS, idx55, idx60, wrap_nn, wrap_i64, LEl.len, LEl.take4, LEl.drop4, LEx.len, LEx.take14, LEx.drop14, frzVs_color, color_kill, LSt.len, LSt.take14, wk_two, aStep_eq, LRg.row_eq, idx26, LSt.ok])
  rotate_left
  · repeat' first
      | refine T_seq ?_
      | refine T_rgn ?_
      | refine T_cd ?_
      | refine T_sk ?_
      | refine T_rt ?_
      | refine T_block ?_
      | refine T_ex ?_
      | refine Kt_then ?_
      | refine Kt_block ?_
      | refine Kr_then ?_
      | refine Kr_block ?_
      | refine Kr_loop ?_
      | refine Ke_here ?_
      | refine Ke_then ?_
      | refine Ke_loop ?_
      | refine Ke_block ?_
      | refine Hid.mk ?_
      | refine T_dr (id := 17) (fun _ => True) [] (.free 0 (.free 1 (.free 2 (.free 3 (.free 4 (.free 5 (.free 6 (.free 7 (.free 8 (.free 9 .done)))))))))) mix ?_
      | refine Gs.mk (fun g => ?_) (fun g => ?_) <;> (try simp only [nm] at g) <;> try (exfalso; first | contradiction | omega)
      | refine Gr.mk (fun g => ?_) (fun g => ?_) <;> (try simp only [nm] at g) <;> try (exfalso; first | contradiction | omega)
      | (refine Run.of ?_; simp (maxSteps := 1000000) (disch := first | omega | assumption | (simp; done) | fail) [*, box_sb, lenNilS, idx55, idx60, wrap_nn, wrap_i64, LEl.len, LEl.take4, LEl.drop4, LEx.len, LEx.take14, LEx.drop14, frzVs_color, color_kill, LSt.len, LSt.take14, wk_two, aStep_eq, LRg.row_eq, idx26, LSt.ok])
    all_goals (refine Kx.mk ?_; have hii : i = l.length := (by omega); subst hii; rw [List.take_length] at hm1; exact owes_my (l := [.tmp 2, .tmp 3]) (.inr rfl) hwf rfl hm1 hst.ext hst.own rfl ⟨rfl, rfl⟩)
  obtain ⟨O4, hk4, hd4⟩ := my_hid (T := [⟨hR (i + 1), 5, 1⟩]) hm3 (by (repeat (first | exact AS.Ext.refl _ | assumption | refine AS.Ext.bump ?_ | refine AS.Ext.kill (by first | omega | (simp; omega) | simp) ?_ | refine AS.Ext.setBox (by first | omega | (simp; omega)) ?_)); done) hout7 (by simp) hel7
  have hst4 := hst3.made hk4 hd4
  have fx4 := fx3.made hd4
  refine T_lp (fun k F H' => ∃ (j : Nat) (O5 : Nat → Prop), k = (nth l (i : Int)).coils.length - j ∧ F 4 = .ptr H.next 1 0 0 ∧ F 15 = PV.sl H.color 3 (l.map (LRg.row H.color)) ∧ F 16 = pi l.length ∧ F 17 = pi i ∧ F 6 = .ptr H1.next 1 0 0 ∧ F 10 = ps (hR (i + 1)) ∧ F 75 = PV.sl H.color 4 ((nth l (i : Int)).coils.map (LEl.row H.color)) ∧ F 76 = pi (nth l (i : Int)).coils.length ∧ F 77 = pi j ∧ j ≤ (nth l (i : Int)).coils.length ∧ LaY H ((S2 ++ [(sSet (nth l (i : Int)).pos (xNam (hR (i + 1)) (nth l (i : Int)).pos) (LEl.conL (nth l (i : Int)).pos (ladE (l.take i)) (nth l (i : Int)).con).1)]) ++ ((nth l (i : Int)).coils.take j).map (coilS (nth l (i : Int)).pos (hR (i + 1)))) (V2 ++ [⟨hR (i + 1), 5, 1⟩]) n2 H' O5 ∧ Off O5 H' H1.next [(nth l (i : Int)).row H.color]) _ ⟨0, O4, rfl, ?_⟩ ?_
  · (repeat' apply And.intro) <;> first | (exact Nat.zero_le _) | (simp [*]; done) | (simpa using hst4) | (exact fx4) | fail
  clear hst4 fx4 hk4 hd4
  rintro k F H5 ⟨j, O5, rfl, g4, g15, g16, g17, g6, g10, g75, g76, g77, hj, hst5, fx5⟩
  have hc5 := hst5.color
  obtain ⟨S5, hS5⟩ : ∃ S5 : List LSt, S5 = (S2 ++ [(sSet (nth l (i : Int)).pos (xNam (hR (i + 1)) (nth l (i : Int)).pos) (LEl.conL (nth l (i : Int)).pos (ladE (l.take i)) (nth l (i : Int)).con).1)]) ++ ((nth l (i : Int)).coils.take j).map (coilS (nth l (i : Int)).pos (hR (i + 1))) := ⟨_, rfl⟩
  have htk := rgS_take (l := l) (i := i) (by assumption)
  have hcl := LEl.length_le_size (nth l (i : Int)).coils
  have hS5l : S5.length < 536870912 := by rw [hS5]; simp only [List.length_append, List.length_map, List.length_take, List.length_cons, List.length_nil]; omega
  rw [← hS5] at hst5
  have iS5 := Is.mk hS5
  clear hS5
  obtain ⟨q5, q6, hm5⟩ := hst5.km
  have hln5 := outLen' hm5.s
  simp only [List.length_map] at hln5
  have bm5 := hm5.box
  have bx5 := fx5.box
  rw [LRg.row_eq] at bx5
  have lx5 := fx5.lt
  have hid5 := hm5.lt
  have i9 : ¬ H.next = H5.next := by omega
  have j1 : ¬ H1.next = H5.next := by omega
  have j2 : ¬ H5.next = H.next := by omega
  have j3 : ¬ H5.next = H1.next := by omega
  have j4 : ¬ H.next = H5.next + 1 := by omega
  have j5 : ¬ H1.next = H5.next + 1 := by omega
  repeat' first
    | refine T_seq ?_
    | refine T_rgn ?_
    | refine T_cd ?_
    | refine T_sk ?_
    | refine T_rt ?_
    | refine T_block ?_
    | refine T_ex ?_
    | refine Kt_then ?_
    | refine Kt_block ?_
    | refine Kr_then ?_
    | refine Kr_block ?_
    | refine Kr_loop ?_
    | refine Ke_here ?_
    | refine Ke_then ?_
    | refine Ke_loop ?_
    | refine Ke_block ?_
    | refine Hid.mk ?_
    | refine T_dr (id := 14) (fun j => j = H.next ∨ j = H1.next ∨ j = H5.next) [13, 16] (.free 0 (.free 1 (.free 2 (.free 3 (.free 4 (.free 5 (.free 6 (.free 7 (.free 9 (.two 8 10 (.sole 10 (.sole 11 (.free 12 (.free 14 (.free 15 (.two 13 16 (.sole 16 .done) (.sole 13 .done))))))) (.sole 8 (.sole 11 (.free 12 (.free 14 (.free 15 (.two 13 16 (.sole 16 .done) (.sole 13 .done))))))))))))))))) mix ?_
    | refine And.intro (fun _ h1 h2 => absurd h2 h1) ?_
    | (refine bs_one under26 Tryz.sz51 Tryz.zero51 rfl rfl (by decide) (by rfl) ?_; simp (disch := first | omega | assumption | (simp; done) | fail) [*])
    | (refine eitherK.raw ?_; simp (maxSteps := 1000000) (disch := first | omega | assumption | (simp; done) | fail) [*, box_sb, lenNilS, idx55, idx60, wrap_nn, wrap_i64, LEl.len, LEl.take4, LEl.drop4, LEx.len, LEx.take14, LEx.drop14, frzVs_color, color_kill, LSt.len, LSt.take14, wk_two, aStep_eq, LRg.row_eq, idx26, LSt.ok])
    | (refine app_raw (lo := 0) (rows := ((S5).map (LSt.row H.color))) ((hm5.ext ?_).s) (Nat.zero_le _) under26 Tryz.sz51 Tryz.zero51 Tryz.by51 rfl rfl (by decide) (box_sb _ _ _ _) ?_ ?_; (focus ((repeat (first | exact AS.Ext.refl _ | assumption | refine AS.Ext.bump ?_ | refine AS.Ext.kill (by first | omega | (simp; omega) | simp) ?_ | refine AS.Ext.setBox (by first | omega | (simp; omega)) ?_)); done)); (focus (simp [*]; omega)); rintro p3 H6 hout6 hab6 hel6; obtain ⟨jl, hjl, hpl, hbl⟩ := hout6.msl (by simp); simp only [List.length_append, List.length_map, List.length_cons, List.length_nil, Nat.zero_add, Nat.reduceAdd] at hpl; have hjid : ¬ jl = H.next := (by rcases hel6.own jl _ _ hpl with ⟨m, s1, e⟩ | h1; (intro e1; subst e1; exact hm5.n1 _ _ e); (simp at h1; omega)); have hjid2 : ¬ H.next = jl := (fun e => hjid e.symm); have hb6 : H6.box H.next = some [[pi (n2 : Nat), q5, q6]] := (by rw [hel6.box H.next (by simp; omega) hm5.n1]; simp [*]); have kx : H6.box H1.next = some [[pi (nth l (i : Int)).pos, PV.sl H.color 4 ((nth l (i : Int)).con.map (LEl.row H.color)), PV.sl H.color 4 ((nth l (i : Int)).coils.map (LEl.row H.color))]] := (by rw [hel6.box H1.next (by simp; omega) (fun n s e => absurd ((hm5.own _).2 (.inr (.inl ⟨_, _, e⟩))) fx5.off)]; simp [*]); have ky : H6.box H5.next = some [(nth (nth l (i : Int)).coils (j : Int)).row H.color] := (by rw [hel6.box H5.next (by simp; omega) (fun n s e => (by have := hm5.s.at_lt e; omega))]; simp [*]); have hc6 : H6.color = H.color := (by rw [hel6.color]; simp [*]); have a0 := stSt (n := S5.length) H.color (coilS (nth l (i : Int)).pos (hR (i + 1)) (nth (nth l (i : Int)).coils (j : Int))) hbl (by simp) rfl; have a1 := fun r => stSt (H := H6.setBox H.next r) (j := jl) (n := S5.length) H.color (coilS (nth l (i : Int)).pos (hR (i + 1)) (nth (nth l (i : Int)).coils (j : Int))) (by rw [box_setBox, if_neg hjid]; exact hbl) (by simp) rfl)
    | refine And.intro ?_ ?_
    | (refine callR (yCoil _ H.color (nth (nth l (i : Int)).coils (j : Int)) (hR (i + 1)) (nth l (i : Int)).pos (by simp [*]) (nm_coil (hgd _ (mem_nth (by assumption))).nc (by assumption))) ?_; rintro _ Hz ⟨rfl, hz⟩; subst Hz)
    | refine Gs.mk (fun g => ?_) (fun g => ?_) <;> (try simp only [nm] at g) <;> try (exfalso; first | contradiction | omega)
    | refine Gr.mk (fun g => ?_) (fun g => ?_) <;> (try simp only [nm] at g) <;> try (exfalso; first | contradiction | omega)
    | (refine Run.of ?_; simp (maxSteps := 1000000) (disch := first | omega | assumption | (simp; done) | fail) [*, box_sb, lenNilS, idx55, idx60, wrap_nn, wrap_i64, LEl.len, LEl.take4, LEl.drop4, LEx.len, LEx.take14, LEx.drop14, frzVs_color, color_kill, LSt.len, LSt.take14, wk_two, aStep_eq, LRg.row_eq, idx26, LSt.ok])
  all_goals first
    | (obtain ⟨O6, k6, d6⟩ := my_put (T := [(coilS (nth l (i : Int)).pos (hR (i + 1)) (nth (nth l (i : Int)).coils (j : Int)))]) hm5 (by (repeat (first | exact AS.Ext.refl _ | assumption | refine AS.Ext.bump ?_ | refine AS.Ext.kill (by first | omega | (simp; omega) | simp) ?_ | refine AS.Ext.setBox (by first | omega | (simp; omega)) ?_)); done) hout6 (by simp) hel6 hpl (by simp); simp only [List.map_append, List.map_cons, List.map_nil] at k6 d6; have hst6 := hst5.made k6 d6; have fx6 := fx5.made d6; obtain ⟨hS5⟩ := iS5; (try simp only [setBox_comm hjid2, setBox_setBox']); refine Kt_loop ⟨_, ?_, j + 1, O6, rfl, ?_⟩ <;> (repeat' apply And.intro) <;> first | omega | (simp [*]; done) | (rw [take_nth (by assumption), List.map_append, ← List.append_assoc, ← hS5]; exact hst6) | (exact fx6) | fail)
    | (have hjj : j = (nth l (i : Int)).coils.length := (by omega); obtain ⟨hS5⟩ := iS5; obtain ⟨hS2⟩ := iS2; obtain ⟨hV2⟩ := iV2; obtain ⟨hn2⟩ := in2; rw [hjj, List.take_length] at hS5; subst hS5 hS2 hV2 hn2; obtain ⟨r1, r2, r3⟩ := rung_end (i := i) (l := l) (by assumption) rfl; refine Kt_loop ⟨_, ?_, i + 1, O5, rfl, ?_⟩ <;> (repeat' apply And.intro) <;> first | omega | (simp [*]; done) | (rw [r1, r2, r3]; exact hst5) | fail)
    | fail
set_option maxHeartbeats 4000000
theorem cut55 (c : Nat) (l : List LRg) (m : Nat) (h : m ≤ l.length) (hc : c < 2) : aCutOp Tryz.prog 55 (PV.sl c 3 (l.map (LRg.row c))) none (some (pi m)) = some (PV.sl c 3 ((l.take m).map (LRg.row c))) := by
  cases l with
  | nil => simp [aCutOp, cutOk, under55, aBound, acut, PV.sl] at h ⊢; omega
  | cons x l =>
    simp only [aCutOp, cutOk, under55, aBound, acut, PV.sl, List.map_cons, Tryz.sz62, Option.bind_some, Option.getD_some, Option.getD_none]
    simp only [List.length_cons, List.length_map] at h ⊢
    rw [if_pos (by simp [hc]), if_pos (by omega)]
    congr 1
    rw [← List.map_cons, ← List.map_take, show ((m : Nat) : Int).toNat = m by omega]
    simp [PV.sl, List.map_take]
theorem cut26 (c : Nat) (l : List LSt) (m : Nat) (h : m ≤ l.length) (hc : c < 2) : aCutOp Tryz.prog 26 (PV.sl c 14 (l.map (LSt.row c))) none (some (pi m)) = some (PV.sl c 14 ((l.take m).map (LSt.row c))) := by
  cases l with
  | nil => simp [aCutOp, cutOk, under26, aBound, acut, PV.sl] at h ⊢; omega
  | cons x l =>
    simp only [aCutOp, cutOk, under26, aBound, acut, PV.sl, List.map_cons, Tryz.sz51, Option.bind_some, Option.getD_some, Option.getD_none]
    simp only [List.length_cons, List.length_map] at h ⊢
    rw [if_pos (by simp [hc]), if_pos (by omega)]
    congr 1
    rw [← List.map_cons, ← List.map_take, show ((m : Nat) : Int).toNat = m by omega]
    simp [PV.sl, List.map_take]
/-- The law's own ladder of one rung. -/
def oneRg : List LRg := [⟨0, [.mk 1 0 ⟨#[65]⟩ []], [.mk 6 0 ⟨#[81]⟩ []]⟩]
theorem lad_take (l : List LRg) (m : Nat) : (ladS 0 0 l).take (ladS 0 0 (l.take m)).length = ladS 0 0 (l.take m) := by
  conv => lhs; rw [← List.take_append_drop m l, ladS_append]
  simp
theorem lad_take_le (l : List LRg) (m : Nat) : (ladS 0 0 (l.take m)).length ≤ (ladS 0 0 l).length := by
  have e : ladS 0 0 l = ladS 0 0 (l.take m) ++ ladS (0 + (l.take m).length) (0 + ladE (l.take m)) (l.drop m) := by rw [← ladS_append, List.take_append_drop]
  rw [e, List.length_append]; omega
theorem u64_small {x : Int} (h : 0 ≤ x) (h2 : x < 18446744073709551616) : IntKind.u64.wrap x = x := by unfold IntKind.wrap; simp [IntKind.bits, IntKind.signed]; omega
theorem rem_law (k : Int) (n : Nat) (h : n < 1073741824) : ∃ m : Nat, m ≤ n ∧ IntKind.i64.wrap (Int.tmod (IntKind.u64.wrap k) ((n : Int) + 1)) = (m : Int) := by
  have h0 := wrap_nn k
  have h1 := Int.tmod_eq_emod_of_nonneg (b := (n : Int) + 1) h0
  have h2 := Int.emod_nonneg (IntKind.u64.wrap k) (b := (n : Int) + 1) (by omega)
  have h3 := Int.emod_lt_of_pos (IntKind.u64.wrap k) (b := (n : Int) + 1) (by omega)
  rw [h1]
  refine ⟨(IntKind.u64.wrap k % ((n : Int) + 1)).toNat, by omega, ?_⟩
  rw [wrap_i64 (by omega) (by omega)]; omega
theorem one_good : ∀ g ∈ oneRg, g.good := by
  intro g hg
  simp only [oneRg, List.mem_singleton] at hg
  subst hg
  constructor <;> simp [LEl.okL, LEl.ok, LEl.nmL, LEl.nm, LEl.okB, LEl.nmB] <;> decide
theorem one_size : rgS oneRg ≤ 1048576 := by simp [oneRg, rgS, LEl.sizeL, LEl.size, LEl.sizeB]
theorem one_two : (ladS 0 0 oneRg).length = 2 := by rw [ladS_length]; simp [oneRg, ladE, ladC, rungE, LEl.edgL, LEl.edg]
theorem lawRungs (H : AS) (s : ByteArray) (k : Int) (hcol : H.color < 2) : ACalls Tryz.prog 6 [ps s, pi k] H fun q H' => q = pb true ∧ H' = H := by
  refine ACalls_intro Tryz.func6 rfl (by kernel_rfl) (by simp) fun hwf hbel => ?_
  have hone := one_two
  repeat' first
    | refine T_seq ?_
    | refine T_rgn ?_
    | refine T_cd ?_
    | refine T_sk ?_
    | refine T_rt ?_
    | refine T_block ?_
    | refine T_ex ?_
    | refine Kt_then ?_
    | refine Kt_block ?_
    | refine Kr_then ?_
    | refine Kr_block ?_
    | refine Ke_here ?_
    | refine Ke_then ?_
    | refine Hid.mk ?_
    | (refine bs_fz under60 Tryz.sz72 Tryz.zero72 rfl rfl (by decide) ?_; simp (disch := first | omega | assumption | (simp; done) | fail) [*, frzR, frzL, frz, PV.cells])
    | (refine bs_fz under55 Tryz.sz62 Tryz.zero62 rfl rfl (by decide) ?_; simp (disch := first | omega | assumption | (simp; done) | fail) [*, frzR, frzL, frz, PV.cells])
    | (refine call_frz (args' := [PV.sl H.color 3 (oneRg.map (LRg.row H.color))]) ?_ (xLadder _ H.color oneRg hcol one_good one_size) ?_; (focus (simp (maxDischargeDepth := 20) [frzVs, frzV, frzL, frzR, frz_nil, frz, oneRg, LRg.row_eq, LEl.row_eq, LEl.row, LEl.bRow, *] <;> rfl; done)); rintro _ Hz ⟨rfl, hz⟩; (try simp only [frzVs, frzV, frzL, frzR, frz_nil, frz] at hz); subst Hz)
    | (refine callR (rLadder _ _ (by simp [*])) ?_; rintro _ Hz ⟨⟨l, la, le, rfl, hgd, hsz⟩, hz⟩; have hll := rgS_length l; obtain ⟨m, hml, hmm⟩ := rem_law k l.length (by omega); have hu : IntKind.u64.wrap ((l.length : Int) + 1) = (l.length : Int) + 1 := u64_small (by omega) (by omega); have hu0 : ¬ (l.length : Int) + 1 = 0 := (by omega); obtain ⟨lm, hlm⟩ : ∃ x, x = l.take m := ⟨_, rfl⟩; have hcut : aCutOp Tryz.prog 55 (PV.sl H.color 3 (l.map (LRg.row H.color))) none (some (pi m)) = some (PV.sl H.color 3 (lm.map (LRg.row H.color))) := (by rw [hlm]; exact cut55 _ l m hml hcol); have hgm : ∀ g ∈ lm, g.good := (fun g hg => hgd g (List.mem_of_mem_take (hlm ▸ hg))); have hsm : rgS lm ≤ 32770 := (by rw [hlm]; have := rgS_takeLe l m; omega); have hle : (ladS 0 0 lm).length ≤ (ladS 0 0 l).length := (by rw [hlm]; exact lad_take_le l m); have hml2 := lad_le l; have hml3 := ladS_length 0 0 l; have hcut2 : aCutOp Tryz.prog 26 (PV.sl H.color 14 ((ladS 0 0 l).map (LSt.row H.color))) none (some (pi (ladS 0 0 lm).length)) = some (PV.sl H.color 14 ((ladS 0 0 lm).map (LSt.row H.color))) := (by have h := cut26 H.color (ladS 0 0 l) (ladS 0 0 lm).length hle hcol; rw [h, hlm, lad_take]); have hne : ¬ ((ladS 0 0 l).length : Int) < ((ladS 0 0 lm).length : Int) := (by omega); clear hlm; subst Hz)
    | (refine callR (xRungs _ H.color l (by omega)) ?_; rintro _ Hz ⟨rfl, hz⟩; subst Hz)
    | (refine callR (xRungs _ H.color lm (by omega)) ?_; rintro _ Hz ⟨rfl, hz⟩; subst Hz)
    | (refine callR (xLadder _ H.color l (by simp [*]) hgd (by omega)) ?_; rintro _ Hz ⟨rfl, hz⟩; subst Hz)
    | (refine callR (xLadder _ H.color lm (by simp [*]) hgm (by omega)) ?_; rintro _ Hz ⟨rfl, hz⟩; subst Hz)
    | (refine callR (yLadder _ H.color l (by simp) hgd (by omega)) ?_; rintro _ Hz ⟨rfl, hz⟩; subst Hz)
    | (refine callR (xSameStmts (ladS 0 0 lm) (sm_lad _ _ _) (by omega) _ H.color H.color) ?_; rintro _ Hz ⟨rfl, hz⟩; subst Hz)
    | refine Gs.mk (fun g => ?_) (fun g => ?_) <;> (try simp only [nm] at g) <;> try (exfalso; first | contradiction | omega)
    | refine Gr.mk (fun g => ?_) (fun g => ?_) <;> (try simp only [nm] at g) <;> try (exfalso; first | contradiction | omega)
    | (refine Run.of ?_; simp (maxSteps := 1000000) (disch := first | omega | assumption | (simp; done) | fail) [*, box_sb, lenNilS, idx55, idx60, wrap_i64, nil29])
  all_goals (refine Kx.mk ?_; refine owes_one (.inr rfl) hwf rfl (by simp [*]) (by (repeat (first | exact AS.Ext.refl _ | assumption | refine AS.Ext.bump ?_ | refine AS.Ext.kill (by first | omega | (simp; omega) | simp) ?_ | refine AS.Ext.setBox (by first | omega | (simp; omega)) ?_)); done) ?_ ?_ <;> (first | (constructor <;> simp [Frozen]) | exact .val _))
end
/-- No block of a colour. -/
def Gh.NoCol (G : Gh) (c : Nat) : Prop := ∀ b x, G.ro b ≠ some (c, x)
/-- A cell's value, where blocks of colour c are boxes from n on. -/
def cv (G : Gh) (c n : Nat) (u : Value) : PV :=
  match u with
  | .slice none 0 0 => .nilS
  | .slice (some a) len cap =>
    if len = 0 then .nilS else
    if a.off = 0 ∧ a.spot = none then
      match G.ro a.block, G.ex a.block with
      | some (c', _), some (len', sz, cap') => if c' = c ∧ len' = len ∧ cap' = cap then .msl (n + a.block) len sz else .val u
      | _, _ => .val u
    else .val u
  | u => .val u
/-- The ghost in which blocks of colour c are boxes. -/
def Gh.thaw (G : Gh) (c n m : Nat) : Gh :=
  { view := fun id vl => if id < n then G.view id vl else match G.ro (id - n), G.ex (id - n) with
      | some (c', _), some (len, sz, cap) => if c' = c ∧ vl = len then some (id - n, sz, cap) else none
      | _, _ => none
    mview := G.mview
    ro := fun b => match G.ro b with
      | some (c', x) => if c' = c then none else some (c', x)
      | none => none
    next := n + m
    w0 := G.w0
    ex := fun b => match G.ro b with
      | some (c', _) => if c' = c then none else G.ex b
      | none => none }
/-- The memory in which they are. -/
def AS.thaw (H : AS) (G : Gh) (c m k : Nat) : AS :=
  { box := fun id => if id < H.next then none else match G.ro (id - H.next), G.ex (id - H.next) with
      | some (c', .cells vs _ _), some (len, sz, _) => if c' = c then some ((List.range len).map fun i => (List.range sz).map fun j => cv G c H.next ((vs[i * sz + j]?).getD undef)) else none
      | _, _ => none
    mp := fun _ => none
    next := H.next + m
    color := k }
section
variable {G : Gh} {H : AS} {w : World} {c n m k : Nat}
theorem thaw_ro {b c' : Nat} {x : Obj} (h : G.ro b = some (c', x)) (hc : c' ≠ c) : (G.thaw c n m).ro b = some (c', x) := by simp [Gh.thaw, h, hc]
theorem thaw_ro_inv {b : Nat} {y : Nat × Obj} (h : (G.thaw c n m).ro b = some y) : G.ro b = some y ∧ y.1 ≠ c := by
  simp only [Gh.thaw] at h
  split at h
  · rename_i c' x e
    split at h
    · cases h
    · cases h; exact ⟨e, by assumption⟩
  · cases h
theorem thaw_gone {b : Nat} {x : Obj} (h : G.ro b = some (c, x)) : (G.thaw c n m).ro b = none := by simp [Gh.thaw, h]
theorem thaw_ex {b c' : Nat} {x : Obj} (h : G.ro b = some (c', x)) (hc : c' ≠ c) : (G.thaw c n m).ex b = G.ex b := by simp [Gh.thaw, h, hc]
theorem thaw_cell {c' b o : Nat} {v : Value} (h : G.cell c' b o = some v) (hc : c' ≠ c) : (G.thaw c n m).cell c' b o = some v := by
  unfold Gh.cell at h ⊢
  cases e : G.ro b with
  | none => rw [e] at h; cases h
  | some y =>
    obtain ⟨c1, x⟩ := y
    rw [e] at h
    cases x with
    | cells vs el fz =>
      dsimp only at h
      split at h
      · rename_i e2; subst e2
        rw [thaw_ro e hc]; simpa using h
      · cases h
    | _ => cases h
/-- Where no list of colour c, and none that is exact, stands. -/
inductive NoC : PV → Prop
  | val (v : Value) : NoC (.val v)
  | junk : NoC .junk
  | rptr {c : Nat} {cells : List PV} : c < 2 → (∀ p ∈ cells, NoC p) → NoC (.rptr c cells)
  | slice {c sz : Nat} {rows : List (List PV)} : c < 2 → (∀ r ∈ rows, ∀ p ∈ r, NoC p) → NoC (.slice c sz rows)
  | iface {t : TypeId} {p : PV} : NoC p → NoC (.iface t p)
  | agg {cells : List PV} : (∀ p ∈ cells, NoC p) → NoC (.agg cells)
  | tuple {cells : List PV} : (∀ p ∈ cells, NoC p) → NoC (.tuple cells)
theorem noC_rep (hc : 2 ≤ c) {p : PV} {v : Value} (r : Rep G p v) : NoC p → Rep (G.thaw c n m) p v := by
  induction r with
  | val v => intro _; exact .val v
  | junk v => intro _; exact .junk v
  | ptr e => intro h; cases h
  | rptr vs h1 h2 _ ih => intro h; cases h with | rptr hl h => exact .rptr vs (fun j p hp => thaw_cell (h1 j p hp) (by omega)) h2 (fun j p hp => ih j p hp (h p (List.mem_of_getElem? hp)))
  | slice vs hx h0 h1 h2 h3 _ ih => intro h; cases h with | slice hl h => exact .slice vs (fun h => absurd h (by omega)) h0 h1 (fun i r j p hr hp => thaw_cell (h2 i r j p hr hp) (by omega)) h3 (fun i r j p hr hp => ih i r j p hr hp (h r (List.mem_of_getElem? hr) p (List.mem_of_getElem? hp)))
  | nilSlice => intro _; exact .nilSlice
  | emptySlice => intro _; exact .emptySlice
  | msl e => intro h; cases h
  | func h1 _ ih => intro h; cases h
  | bound h1 _ ih => intro h; cases h
  | iface _ ih => intro h; cases h with | iface h => exact .iface (ih h)
  | agg h1 h2 _ ih => intro h; cases h with | agg h => exact .agg h1 h2 (fun j p v hp hv => ih j p v hp hv (h p (List.mem_of_getElem? hp)))
  | tuple h1 _ ih => intro h; cases h with | tuple h => exact .tuple h1 (fun j p v hp hv => ih j p v hp hv (h p (List.mem_of_getElem? hp)))
  | map e => intro h; cases h
/-- A cell as it is thawed. -/
theorem cv_rep (hn : ∀ b x, G.ro b = some x → b < m) (u : Value) : Rep (G.thaw c n m) (cv G c n u) u := by
  unfold cv
  split
  · exact .nilSlice
  · rename_i a len cap
    split
    · rename_i e; subst e; exact .emptySlice
    · split
      · rename_i e
        split
        · rename_i c' x len' sz cap' e1 e2
          split
          · rename_i e3
            obtain ⟨rfl, rfl, rfl⟩ := e3
            obtain ⟨blk, off, spot⟩ := a
            simp only at e e1 e2
            obtain ⟨rfl, rfl⟩ := e
            refine .msl ?_
            simp only [Gh.thaw]
            rw [if_neg (by omega)]
            simp [e1, e2]
          · exact .val _
        · exact .val _
      · exact .val _
  · exact .val _
/-- What a list was and is. -/
inductive Th (c lo : Nat) (H : AS) : PV → PV → Prop
  | val {v : Value} : (∀ a l k, v ≠ .slice a l k) → Th c lo H (.val v) (.val v)
  | nil : Th c lo H .nilS .nilS
  | list {sz id : Nat} {rows rows' : List (List PV)} : rows ≠ [] → lo ≤ id → id < H.next → H.box id = some rows' → rows'.length = rows.length → (∀ (i : Nat) (r r' : List PV), rows[i]? = some r → rows'[i]? = some r' → r'.length = r.length ∧ r.length = sz) →
      (∀ (i : Nat) (r r' : List PV) (j : Nat) (p p' : PV), rows[i]? = some r → rows'[i]? = some r' → r[j]? = some p → r'[j]? = some p' → Th c lo H p p') → Th c lo H (.slice c sz rows) (.msl id rows.length sz)
/-- What may be thawed. -/
inductive ThOk (c : Nat) : PV → Prop
  | val {v : Value} : (∀ a l k, v ≠ .slice a l k) → ThOk c (.val v)
  | nil : ThOk c .nilS
  | list {sz : Nat} {rows : List (List PV)} : rows ≠ [] → 0 < sz → (∀ r ∈ rows, ∀ p ∈ r, ThOk c p) → ThOk c (.slice c sz rows)
theorem cv_th (hc : 2 ≤ c) (hr : Rel G H w) {p : PV} {v : Value} (r : Rep G p v) : ThOk c p → Th c H.next (H.thaw G c w.heap.size k) p (cv G c H.next v) := by
  induction r with
  | val v =>
    intro h
    cases h with
    | val h =>
      have : cv G c H.next v = .val v := by
        unfold cv
        split
        · rename_i a; exact absurd rfl (h _ _ _)
        · exact absurd rfl (h _ _ _)
        · rfl
      rw [this]; exact .val h
  | junk v => intro h; cases h
  | ptr e => intro h; cases h
  | rptr vs h1 h2 _ ih => intro h; cases h
  | @slice c1 sz b o cap rows vs hx h0 h1 h2 h3 h4 ih =>
    intro h
    cases h with
    | nil =>
      have : cv G c H.next (.slice (some ⟨b, o, none⟩) ([] : List (List PV)).length cap) = .nilS := by simp [cv]
      rw [this]; exact .nil
    | list hne hsz h =>
      obtain ⟨rfl, hex⟩ := hx hc
      obtain ⟨r0, rs, hrs⟩ : ∃ r0 rs, rows = r0 :: rs := by
        cases rows with
        | nil => exact absurd rfl hne
        | cons a l => exact ⟨a, l, rfl⟩
      have hr0 : rows[0]? = some r0 := by rw [hrs]; rfl
      have hl0 := h1 0 r0 hr0
      obtain ⟨q0, hq0⟩ := get_of_lt (l := r0) (i := 0) (by omega)
      have hcell := h2 0 r0 0 q0 hr0 hq0
      obtain ⟨ws, el, fz, hro⟩ : ∃ ws el fz, G.ro b = some (c, .cells ws el fz) := by
        unfold Gh.cell at hcell
        cases e : G.ro b with
        | none => rw [e] at hcell; cases hcell
        | some y =>
          obtain ⟨c1, x⟩ := y
          rw [e] at hcell
          cases x with
          | cells ws el fz =>
            dsimp only at hcell
            split at hcell
            · rename_i e2; subst e2; exact ⟨ws, el, fz, rfl⟩
            · cases hcell
          | _ => cases hcell
      have hat : ∀ (i : Nat) (r : List PV) (j : Nat) (p : PV), rows[i]? = some r → r[j]? = some p → ws[i * sz + j]? = some (vs i j) := fun i r j p a1 a2 => by
        have := h2 i r j p a1 a2
        unfold Gh.cell at this
        rw [hro] at this
        simpa using this
      have hlen0 : rows.length ≠ 0 := by rw [hrs]; simp
      have hcv : cv G c H.next (.slice (some ⟨b, 0, none⟩) rows.length cap) = .msl (H.next + b) rows.length sz := by
        simp [cv, hlen0, hro, hex, hne]
      rw [hcv]
      have hbox : (H.thaw G c w.heap.size k).box (H.next + b) = some ((List.range rows.length).map fun i => (List.range sz).map fun j => cv G c H.next ((ws[i * sz + j]?).getD undef)) := by
        simp [AS.thaw, hro, hex]
      have hb : b < w.heap.size := (Array.getElem?_eq_some_iff.1 (hr.ro _ _ _ hro)).1
      refine .list hne (by omega) (by simp [AS.thaw]; omega) hbox (by simp) (fun i r r' a1 a2 => ?_) (fun i r r' j p p' a1 a2 a3 a4 => ?_)
      · have a3 := h1 i r a1
        rw [List.getElem?_map] at a2
        obtain ⟨i', e1, e2⟩ := Option.map_eq_some_iff.1 a2
        rw [← e2]; simp; omega
      · have hi : i < rows.length := (List.getElem?_eq_some_iff.1 a1).1
        have hj : j < sz := by rw [← h1 i r a1]; exact (List.getElem?_eq_some_iff.1 a3).1
        have e1 : r' = (List.range sz).map fun j => cv G c H.next ((ws[i * sz + j]?).getD undef) := by
          rw [List.getElem?_map, List.getElem?_range hi] at a2
          simpa using a2.symm
        subst e1
        have e2 : p' = cv G c H.next ((ws[i * sz + j]?).getD undef) := by
          rw [List.getElem?_map, List.getElem?_range hj] at a4
          simpa using a4.symm
        subst e2
        rw [hat i r j p a1 a3]
        exact ih i r j p a1 a3 (h r (List.mem_of_getElem? a1) p (List.mem_of_getElem? a3))
  | nilSlice => intro h; cases h with
    | nil => exact .nil
    | list h => exact absurd rfl h
  | @emptySlice c1 sz cap a => intro h; cases h with
    | nil =>
      have : cv G c H.next (.slice (some a) 0 cap) = .nilS := by simp [cv]
      rw [this]; exact .nil
    | list h => exact absurd rfl h
  | msl e => intro h; cases h
  | func h1 _ ih => intro h; cases h
  | bound h1 _ ih => intro h; cases h
  | iface _ ih => intro h; cases h
  | agg h1 h2 _ ih => intro h; cases h
  | tuple h1 _ ih => intro h; cases h
  | map e => intro h; cases h
theorem rel_thaw (hc : 2 ≤ c) (hr : Rel G H w) {G0 : Gh} (h0 : G0.le G) (hb0 : G0.Base) (hx0 : G0.ExOk) (hn0 : G0.NoCol c) (hbox : ∀ id, H.box id = none) (hd0 : ∀ id vl x, G0.view id vl = some x → id < G0.next) :
    G0.le (G.thaw c H.next w.heap.size) ∧ Rel (G.thaw c H.next w.heap.size) (H.thaw G c w.heap.size k) w := by
  have hlt : ∀ b x, G.ro b = some x → b < w.heap.size := fun b x e => (Array.getElem?_eq_some_iff.1 (hr.ro b x.1 x.2 e)).1
  have hne : ∀ b y, G0.ro b = some y → y.1 ≠ c := fun b y e e2 => hn0 b y.2 (by rw [e, ← e2])
  have hnx : G0.next ≤ H.next := by rw [← hr.next]; exact h0.next
  have inv : ∀ id rows, (H.thaw G c w.heap.size k).box id = some rows → H.next ≤ id ∧ ∃ vs el fz len sz cap, G.ro (id - H.next) = some (c, .cells vs el fz) ∧ G.ex (id - H.next) = some (len, sz, cap) ∧ rows = (List.range len).map fun i => (List.range sz).map fun j => cv G c H.next ((vs[i * sz + j]?).getD undef) := by
    intro id rows e
    simp only [AS.thaw] at e
    split at e
    · cases e
    · rename_i hid
      split at e
      · rename_i c' vs el fz len sz cap e1 e2
        split at e
        · rename_i e3; subst e3; cases e
          exact ⟨by omega, vs, el, fz, len, sz, cap, e1, e2, rfl⟩
        · cases e
      · cases e
  refine ⟨⟨fun b x e => ?_, fun id vl x e => ?_, fun id x e => h0.mview id x e, by show G0.next ≤ H.next + _; omega, h0.w0, fun b x e => ?_, fun b y e => ?_⟩, ⟨rfl, fun b c' o e => ?_, fun id rows e => ?_, fun i j ri rj b s cp s' cp' hi hj e1 e2 => ?_, fun id es e => (by cases e), fun i j ri rj b e => (by cases e), fun id rows vl x e1 e2 => ?_, fun id vl x e => ?_, fun id x e => ?_, hr.os, hr.out, hr.tape, ⟨hr.base.1, fun b o e => ?_⟩, ⟨fun b c' x e h2 => ?_, fun b x e => ?_⟩⟩⟩
  · exact thaw_ro (h0.ro b x e) (hne b x e)
  · have h1 := hd0 id vl x e
    simp only [Gh.thaw]
    rw [if_pos (by omega)]; exact h0.view id vl x e
  · obtain ⟨y, hy⟩ := hx0.ro b x e
    rw [thaw_ex (c' := y.1) (x := y.2) (h0.ro b y hy) (hne b y hy)]
    exact h0.ex b x e
  · rw [thaw_ex (c' := y.1) (x := y.2) (h0.ro b y e) (hne b y e)]
    exact h0.exn b y e
  · exact hr.ro b c' o (thaw_ro_inv e).1
  · obtain ⟨hid, vs, el, fz, len, sz, cap, g1, g2, rfl⟩ := inv id rows e
    obtain ⟨len', sz', cap', vs', el', fz', k1, k2, k3, k4, k5, k6⟩ := hr.exok.all _ _ _ g1 hc
    rw [g2] at k1; cases k1; cases k2
    refine ⟨id - H.next, sz, cap, vs, el, fz, ?_, hr.ro _ _ _ g1, k3, k4, by simpa using k5, fun r hr' => ?_, fun i r j p a1 a2 => ?_, k6, thaw_gone g1⟩
    · simp only [Gh.thaw]
      rw [if_neg (by omega)]
      simp [g1, g2]
    · obtain ⟨i, _, rfl⟩ := List.mem_map.1 hr'; simp
    · have hi : i < len := by have := (List.getElem?_eq_some_iff.1 a1).1; simpa using this
      have e1 : r = (List.range sz).map fun j => cv G c H.next ((vs[i * sz + j]?).getD undef) := by
        rw [List.getElem?_map, List.getElem?_range hi] at a1
        simpa using a1.symm
      subst e1
      have hj : j < sz := by have := (List.getElem?_eq_some_iff.1 a2).1; simpa using this
      have e2 : p = cv G c H.next ((vs[i * sz + j]?).getD undef) := by
        rw [List.getElem?_map, List.getElem?_range hj] at a2
        simpa using a2.symm
      subst e2
      have hlt2 : i * sz + j < vs.size := by
        have : (i + 1) * sz ≤ cap * sz := Nat.mul_le_mul_right _ (by omega)
        rw [Nat.add_mul] at this; omega
      refine ⟨vs[i * sz + j], by simp [hlt2], ?_⟩
      rw [Array.getElem?_eq_getElem hlt2]
      exact cv_rep hlt _
  · obtain ⟨hid, vs, el, fz, len, sz, cap, g1, g2, rfl⟩ := inv i ri hi
    obtain ⟨hjd, vs', el', fz', len', sz', cap', k1, k2, rfl⟩ := inv j rj hj
    simp only [Gh.thaw] at e1 e2
    rw [if_neg (by omega)] at e1 e2
    simp [g1, g2] at e1
    simp [k1, k2] at e2
    omega
  · obtain ⟨hid, vs, el, fz, len, sz, cap, g1, g2, rfl⟩ := inv id rows e1
    simp only [Gh.thaw] at e2
    rw [if_neg (by omega)] at e2
    simp [g1, g2] at e2
    simp; omega
  · show id < H.next + w.heap.size
    simp only [Gh.thaw] at e
    split at e
    · omega
    · split at e
      · rename_i c' y len sz cap e1 e2
        have := hlt _ _ e1
        omega
      · cases e
  · show id < H.next + w.heap.size
    have := hr.mdom id x e
    rw [hr.next] at this; omega
  · obtain ⟨c0, hc0⟩ := hb0.2 b o (by rw [← h0.w0]; exact e)
    exact ⟨c0, thaw_ro (h0.ro b _ hc0) (hne b _ hc0)⟩
  · obtain ⟨e1, e2⟩ := thaw_ro_inv e
    obtain ⟨len, sz, cap, vs, el, fz, k1, k2⟩ := hr.exok.all b c' x e1 h2
    exact ⟨len, sz, cap, vs, el, fz, by rw [thaw_ex e1 e2]; exact k1, k2⟩
  · simp only [Gh.thaw] at e
    split at e
    · rename_i c' y e1
      split at e
      · cases e
      · exact ⟨_, thaw_ro e1 (by assumption)⟩
    · cases e
end
/-- Code, where no block of a colour was there at the beginning. -/
def T0 (c : Nat) (P : Program) (n b : Nat) (x : Code) (F : AF) (H : AS) (Q : Exit → AF → AS → Prop) : Prop :=
  ∀ (G0 G : Gh) (w : World) (a : Act), G0.NoCol c → G0.Base → G0.ExOk → G0.Dom b → G0.le G → Rel G H w → RepF n G F a → x.wp P (PostOf n G0 Q) a w
section
variable {P : Program} {n b c : Nat} {F : AF} {H : AS} {Q : Exit → AF → AS → Prop}
theorem T0.of {x : Code} (h : T P n b x F H Q) : T0 c P n b x F H Q := fun G0 G w a _ _ _ => h G0 G w a
def thenT0 (c : Nat) (P : Program) (n b : Nat) (y : Code) (Q : Exit → AF → AS → Prop) : Exit → AF → AS → Prop
  | .normal, F, H => T0 c P n b y F H Q
  | e, F, H => Q e F H
theorem T0.seq {x y : Code} (h : T0 c P n b x F H (thenT0 c P n b y Q)) : T0 c P n b (.seq x y) F H Q := fun G0 G w a h1 h2 h3 hd hle hr hF => by
  refine wp_seq (wp_mono (h G0 G w a h1 h2 h3 hd hle hr hF) ?_)
  rintro e a' w' ⟨hf, G', F', H', hle', hr', hF', hq⟩
  cases e with
  | normal => exact hq G0 G' w' a' h1 h2 h3 hd hle' hr' hF'
  | exit id => exact ⟨hf, G', F', H', hle', hr', hF', hq⟩
  | goto l => exact ⟨hf, G', F', H', hle', hr', hF', hq⟩
  | ret => exact ⟨hf, G', F', H', hle', hr', hF', hq⟩
  | panic c => exact hf.elim
  | outgrown => exact hf.elim
def AS.paint (H : AS) (k : Nat) : AS := { H with color := k }
@[simp] theorem paint_next (H : AS) (k : Nat) : (H.paint k).next = H.next := rfl
@[simp] theorem paint_box (H : AS) (k i : Nat) : (H.paint k).box i = H.box i := rfl
@[simp] theorem paint_mp (H : AS) (k i : Nat) : (H.paint k).mp i = H.mp i := rfl
@[simp] theorem paint_color (H : AS) (k : Nat) : (H.paint k).color = k := rfl
@[simp] theorem paint_paint (H : AS) (k j : Nat) : (H.paint k).paint j = H.paint j := rfl
theorem paint_same {H : AS} {k : Nat} (h : H.color = k) : H.paint k = H := by subst h; rfl
theorem Rel.paint {G : Gh} {w : World} (h : Rel G H w) (k : Nat) : Rel G { H with color := k } w :=
  ⟨h.next, h.ro, h.box, h.inj, h.mp, h.minj, h.vmax, h.dom, h.mdom, h.os, h.out, h.tape, h.base, h.exok⟩
/-- What is frozen from now on has another colour. -/
theorem T0.paint {x : Code} (k : Nat) (h : T0 c P n b x F { H with color := k } Q) : T0 c P n b x F H Q := fun G0 G w a h1 h2 h3 hd hle hr hF => h G0 G w a h1 h2 h3 hd hle (hr.paint k) hF
theorem T.paint {x : Code} (k : Nat) (h : T P n b x F { H with color := k } Q) : T P n b x F H Q := fun G0 G w a hd hle hr hF => h G0 G w a hd hle (hr.paint k) hF
/-- Frozen lists of a colour become one's own. -/
theorem T0.thaw {x : Code} (hc : 2 ≤ c) (k s : Nat) (F' : PV → AF) {p : PV} (hp : F s = p) (hok : ThOk c p) (hbox : ∀ id, H.box id = none) (hF' : ∀ p' t, t ≠ s → F' p' t = .junk ∨ (F' p' t = F t ∧ NoC (F t))) (hs : ∀ p', F' p' s = p')
    (h : ∀ H' p', H.next ≤ H'.next → (∀ id, id < H.next → H'.box id = none) → (∀ id, H'.mp id = none) → H'.color = k → Th c H.next H' p p' → T P n b x (F' p') H' Q) : T0 c P n b x F H Q := fun G0 G w a h1 h2 h3 hd hle hr hF => by
  obtain ⟨g1, g2⟩ := rel_thaw (k := k) hc hr hle h2 h3 h1 hbox hd.view
  have hlt : ∀ b x, G.ro b = some x → b < w.heap.size := fun b x e => (Array.getElem?_eq_some_iff.1 (hr.ro b x.1 x.2 e)).1
  have hrep := hF.rep s
  rw [hp] at hrep
  refine h _ _ (by simp [AS.thaw]) (fun id hid => by simp [AS.thaw, hid]) (fun _ => rfl) rfl (cv_th (k := k) hc hr hrep hok) G0 _ w a hd g1 g2 ⟨hF.defers, hF.size, fun t => ?_⟩
  by_cases e : t = s
  · subst e; rw [hs]; exact cv_rep hlt _
  · rcases hF' (cv G c H.next (a.tmps.getD s undef)) t e with e1 | ⟨e1, e2⟩
    · rw [e1]; exact .junk _
    · rw [e1]; exact noC_rep hc (hF.rep t) e2
theorem T0.seqA {x y : Code} (h : T P n b x F H (thenT0 c P n b y Q)) : T0 c P n b (.seq x y) F H Q := T0.seq (T0.of h)
/-- A region with another colour. -/
theorem T0.seqC {id : Nat} {ops : Array Oper} {d : Bool} {y : Code} (k : Nat) (h : T P n b (.region id ops d) F (H.paint k) (thenT0 c P n b y Q)) : T0 c P n b (.seq (.region id ops d) y) F H Q := T0.seq (T0.paint k (T0.of h))
/-- To be walked by hand. -/
structure T0s (c : Nat) (P : Program) (n b : Nat) (x : Code) (F : AF) (H : AS) (Q : Exit → AF → AS → Prop) : Prop where
  of ::
  run : T0 c P n b x F H Q
theorem T0.stop {id : Nat} {ops : Array Oper} {d : Bool} {y : Code} (h : T0s c P n b (.seq (.region id ops d) y) F H Q) : T0 c P n b (.seq (.region id ops d) y) F H Q := h.run
theorem Kt_then0 {y : Code} (h : T0 c P n b y F H Q) : @Kt ⟨(thenT0 c P n b y Q) .normal⟩ F H := .mk h
theorem Kr_then0 {y : Code} (h : @Kx .ret ⟨Q⟩ F H) : @Kx .ret ⟨thenT0 c P n b y Q⟩ F H := .mk h.get
/-- A frame of which little is kept. -/
def keepF (keep : List Nat) (s : Nat) (F : AF) (p : PV) : AF := fun t => if t = s then p else if t ∈ keep then F t else .junk
theorem T0s.thawL {x : Code} (k s : Nat) (keep : List Nat) {p : PV} (hp : F s = p) (hok : ThOk c p) (hbox : ∀ id, H.box id = none) (hk : ∀ t ∈ keep, NoC (F t))
    (h : ∀ H' p', H.next ≤ H'.next → (∀ id, id < H.next → H'.box id = none) → (∀ id, H'.mp id = none) → H'.color = k → Th c H.next H' p p' → T P n b x (keepF keep s F p') H' Q) (hc : 2 ≤ c := by decide) : T0s c P n b x F H Q :=
  ⟨T0.thaw hc k s (keepF keep s F) hp hok hbox (fun p' t ht => by
    unfold keepF
    rw [if_neg ht]
    split
    · exact .inr ⟨rfl, hk t (by assumption)⟩
    · exact .inl rfl) (fun p' => by simp [keepF]) h⟩
/-- The call of a function, where no block of a colour was there at its beginning. -/
theorem calls0_intro {f : FuncId} {fn : Func} {x : Code} {args : List PV} {k : PV → AS → Prop} (c : Nat) (hf : P.funcs[f]? = some fn) (hb : fn.body = some x) (hargs : args.length ≤ fn.ntmps)
    (h : WF H → (∀ p ∈ args, Below H.next p) → T0 c P fn.ntmps H.next x (frame0 args) H (Owes P fn H k)) (G : Gh) (w : World) (vs : List Value) (hcol : G.NoCol c) (hr : Rel G H w) (hall : RepAll G args vs) :
    Calls P f vs.toArray w fun e w' => ∃ v G' q H', e = .returned v ∧ G.le G' ∧ Rel G' H' w' ∧ Rep G' q v ∧ k q H' := by
  have hlen := hall.get.1
  have hbel : ∀ p ∈ args, Below H.next p := fun p hp => by
    obtain ⟨j, hj⟩ := List.getElem?_of_mem hp
    have hlt : j < vs.length := by rw [← hlen]; exact (List.getElem?_eq_some_iff.1 hj).1
    exact (hall.get.2 j p vs[j] hj (List.getElem?_eq_getElem hlt)).isBelow (fun i l x e => by rw [← hr.next]; exact hr.dom i l x e) (fun i x e => by rw [← hr.next]; exact hr.mdom i x e)
  have hT := h hr.wf hbel G G w _ hcol hr.base hr.exok hr.dom' (.refl G) hr (by
    have := frame0_rep hall (fn.ntmps - vs.length)
    rwa [show vs.length + (fn.ntmps - vs.length) = fn.ntmps by omega] at this)
  refine calls_of_wp hf hb ?_
  rw [show vs.toArray.size = vs.length by simp]
  refine wp_mono hT ?_
  rintro e a' w' ⟨hfine, G', F', H', hle, hr', hF', hex, howe⟩
  split at howe
  · rename_i rs hrs
    obtain ⟨H1, hn1, hext, hwf, hbel1, hk⟩ := howe
    obtain ⟨us, hrun, hall'⟩ := aResults_sound hr' hF' _ _ hrs
    obtain ⟨G2, le2, r2, p2⟩ := frzVs_sound rs hr' hall'
    obtain ⟨le3, r3⟩ := r2.forget (hle.trans le2) (H1 := H1) (by rw [hr.next]; exact hn1) (fun id rows e => by rw [hext.box id (hwf.box _ _ e).1]; exact e) (fun id es e => by rw [hext.mp id (hwf.mp _ _ e).1]; exact e) hwf (fun i l x e => hr.dom i l x e) (fun i x e => hr.mdom i x e)
    have hrep := (packed_rep p2).cutAt (below_packed hbel1)
    have hres : (results fn a'.tmps).run P w' = .ok (if h : us.length = 1 then us[0]'(by omega) else .tuple us.toArray) w' := by
      unfold results
      rw [Array.mapM_eq_mapM_toList]
      show Sem.run P (Bind.bind (Bind.bind (fn.results.toList.mapM (resOf a'.tmps)) (pure ∘ List.toArray)) _) w' = _
      simp only [Sem.run_bind, hrun, Result.andThen_ok, Function.comp, Sem.run_pure]
      simp
    have fin : a'.defers = [] ∧ ∃ v, (results fn a'.tmps).run P w' = .ok v w' ∧ ∃ v' G' q H', Ending.returned v = .returned v' ∧ G.le G' ∧ Rel G' H' w' ∧ Rep G' q v' ∧ k q H' :=
      ⟨hF'.defers, _, hres, _, _, _, _, rfl, le3, r3, hrep, hk⟩
    rcases hex with rfl | rfl
    · exact fin
    · exact fin
  · exact howe.elim
theorem noCol_start {W : World} {c : Nat} (hc : c ≠ 0) : (Gh.start W 0).NoCol c := by
  intro b x e
  simp only [Gh.start, Option.map_eq_some_iff] at e
  obtain ⟨o, _, e⟩ := e
  cases e; exact hc rfl
end
section
set_option maxHeartbeats 4000000
attribute [local simp ↓] wanted_at hbind_some
attribute [local simp] Gs_true Gs_false gcond_Gr Gr_true Gr_false abox frame0 int_beq int_bne aload astore partOf Keeps Same splice aUn aFieldAddr aField aBin aBinV aConvert aExtract aLen aBuild aBuild.go aalloc AS.Ext.refl AS.Ext.bump AS.Ext.setBox
def SamL (l : List LEl) : Prop := LEl.sizeL l ≤ 1048576 → ∀ (H : AS) (c c' : Nat), ACalls Tryz.prog 69 [PV.sl c 4 (l.map (LEl.row c)), PV.sl c' 4 (l.map (LEl.row c'))] H fun q H' => q = pb true ∧ H' = H
theorem samL_of (l : List LEl) (ih : ∀ e ∈ l, ∀ b ∈ e.br, SamL b) : SamL l := by
  intro hn H c c'
  refine ACalls_intro Tryz.func69 rfl (by kernel_rfl) (by simp) fun hwf hbel => ?_
  have hll := LEl.length_le_size l
  repeat' first
    | refine T_seq ?_
    | refine T_rgn ?_
    | refine T_cd ?_
    | refine T_sk ?_
    | refine T_rt ?_
    | refine T_block ?_
    | refine T_ex ?_
    | refine Kt_then ?_
    | refine Kt_block ?_
    | refine Kr_then ?_
    | refine Kr_block ?_
    | refine Ke_here ?_
    | refine Ke_then ?_
    | refine Hid.mk ?_
    | refine Gs.mk (fun g => ?_) (fun g => ?_) <;> (try simp only [nm] at g) <;> try (exfalso; first | contradiction | omega)
    | refine Gr.mk (fun g => ?_) (fun g => ?_) <;> (try simp only [nm] at g) <;> try (exfalso; first | contradiction | omega)
    | (refine Run.of ?_; simp (maxSteps := 1000000) (disch := first | omega | assumption | (simp; done) | fail) [*, box_sb, LEl.len, LEl.take4, LEl.drop4, LEl.r0, LEl.r1, LEl.r2, LEl.r3, lenNilS, idx60, idx70, LEl.bRow, wrap_nn, wrap_i64, int_bne, beq_bytes, wk_two, aStep_eq])
  refine T_lp (fun k F H' => ∃ (i : Nat), k = l.length - i ∧ F 0 = PV.sl c 4 (l.map (LEl.row c)) ∧ F 1 = PV.sl c' 4 (l.map (LEl.row c')) ∧ F 14 = PV.sl c 4 (l.map (LEl.row c)) ∧ F 15 = pi l.length ∧ F 16 = pi i ∧ i ≤ l.length ∧ H.Ext H') _ ⟨0, rfl, by simp, by simp, by simp, by simp, by simp, Nat.zero_le _, .refl _⟩ ?_
  rintro k F H1 ⟨i, rfl, g0, g1, g14, g15, g16, hi, hext⟩
  have hn1 := hext.next
  have e1 : ¬ H1.next = H1.next + 1 := by omega
  have e2 : ¬ H1.next + 1 = H1.next := by omega
  repeat' first
    | refine T_seq ?_
    | refine T_rgn ?_
    | refine T_cd ?_
    | refine T_sk ?_
    | refine T_rt ?_
    | refine T_block ?_
    | refine T_ex ?_
    | refine Kt_then ?_
    | refine Kt_block ?_
    | refine Kr_then ?_
    | refine Kr_block ?_
    | refine Kr_loop ?_
    | refine Ke_here ?_
    | refine Ke_then ?_
    | refine Ke_loop ?_
    | refine Ke_block ?_
    | refine Hid.mk ?_
    | refine T_dr (id := 6) (fun _ => False) [11] (.free 0 (.free 1 (.free 2 (.free 3 (.free 4 (.free 5 (.free 6 (.free 7 (.two 8 9 (.sole 9 (.sole 10 (.sole 11 .done))) (.sole 8 (.sole 10 (.sole 11 .done)))))))))))) mix ?_
    | refine T_dr (id := 12) (fun j => j = H1.next ∨ j = H1.next + 1) [] (.free 0 (.free 1 (.free 2 (.free 3 (.free 4 (.free 5 (.free 6 (.free 7 (.free 8 (.free 9 (.sole 10 (.free 11 .done)))))))))))) mix ?_
    | refine And.intro (fun _ h1 h2 => absurd h2 h1) ?_
    | refine And.intro ?_ ?_
    | refine Gs.mk (fun g => ?_) (fun g => ?_) <;> (try simp only [nm] at g) <;> try (exfalso; first | contradiction | omega)
    | refine Gr.mk (fun g => ?_) (fun g => ?_) <;> (try simp only [nm] at g) <;> try (exfalso; first | contradiction | omega)
    | (refine Run.of ?_; simp (maxSteps := 1000000) (disch := first | omega | assumption | (simp; done) | fail) [*, box_sb, LEl.len, LEl.take4, LEl.drop4, LEl.r0, LEl.r1, LEl.r2, LEl.r3, lenNilS, idx60, idx70, LEl.bRow, wrap_nn, wrap_i64, int_bne, beq_bytes, wk_two, aStep_eq])
  all_goals first
    | (refine Kx.mk ?_; refine owes_one (.inr rfl) hwf rfl (by first | rfl | (simp [*]; done)) (by first | exact AS.Ext.refl _ | assumption | ((repeat (first | exact AS.Ext.refl _ | assumption | refine AS.Ext.bump ?_ | refine AS.Ext.kill (by first | omega | (simp; omega) | simp) ?_ | refine AS.Ext.setBox (by first | omega | (simp; omega)) ?_)); done)) ?_ ?_ <;> (first | (constructor <;> simp [Frozen]) | exact .val _))
    | skip
  all_goals (
    have hst0 := size_nth (l := l) (i := i) (by assumption)
    have htk := sizeL_take (l := l) (i := i) (by assumption)
    rw [LEl.size_eq] at htk
    have hbl := LEl.lengthB_le (nth l (i : Int)).br
    refine T_lp (fun k F H' => ∃ (j ja jb : Nat), k = (nth l (i : Int)).br.length - j ∧ F 0 = PV.sl c 4 (l.map (LEl.row c)) ∧ F 1 = PV.sl c' 4 (l.map (LEl.row c')) ∧ F 14 = PV.sl c 4 (l.map (LEl.row c)) ∧ F 15 = pi l.length ∧ F 16 = pi i ∧ F 6 = .ptr ja 1 0 0 ∧ F 7 = .ptr jb 1 0 0 ∧ F 56 = PV.sl c 1 ((nth l (i : Int)).br.map (LEl.bRow c)) ∧ F 57 = pi (nth l (i : Int)).br.length ∧ F 58 = pi j ∧ j ≤ (nth l (i : Int)).br.length ∧ H'.box ja = some [(nth l (i : Int)).row c] ∧ H'.box jb = some [(nth l (i : Int)).row c'] ∧ H.Ext H') ((nth l (i : Int)).br.length - 0) ?_ ?_
    · first
      | (refine ⟨0, H1.next, H1.next + 1, rfl, ?_⟩; ((repeat' apply And.intro) <;> first | omega | (simp [*]; done) | ((repeat (first | exact AS.Ext.refl _ | assumption | refine AS.Ext.bump ?_ | refine AS.Ext.kill (by first | omega | (simp; omega) | simp) ?_ | refine AS.Ext.setBox (by first | omega | (simp; omega)) ?_)); done) | fail))
      | (refine ⟨0, H1.next + 1, H1.next, rfl, ?_⟩; ((repeat' apply And.intro) <;> first | omega | (simp [*]; done) | ((repeat (first | exact AS.Ext.refl _ | assumption | refine AS.Ext.bump ?_ | refine AS.Ext.kill (by first | omega | (simp; omega) | simp) ?_ | refine AS.Ext.setBox (by first | omega | (simp; omega)) ?_)); done) | fail))
      | fail
    rintro k F H4 ⟨j, ja, jb, rfl, g0, g1, g14, g15, g16, g6, g7, g56, g57, g58, hj, ba, bb, hx4⟩
    repeat' first
      | refine T_seq ?_
      | refine T_rgn ?_
      | refine T_cd ?_
      | refine T_sk ?_
      | refine T_rt ?_
      | refine T_block ?_
      | refine T_ex ?_
      | refine Kt_then ?_
      | refine Kt_block ?_
      | refine Kr_then ?_
      | refine Kr_block ?_
      | refine Kr_loop ?_
      | refine Ke_here ?_
      | refine Ke_then ?_
      | refine Ke_loop ?_
      | refine Ke_block ?_
      | refine Hid.mk ?_
      | refine T_dr (id := 12) (fun _ => True) [] (.free 0 (.free 1 (.free 2 (.free 3 (.free 4 (.free 5 (.free 6 (.free 7 (.free 8 (.free 9 (.sole 10 (.free 11 .done)))))))))))) mix ?_
      | refine And.intro (fun _ h1 h2 => absurd h2 h1) ?_
      | (refine callR (ih (nth l (i : Int)) (mem_nth (by assumption)) (nth (nth l (i : Int)).br (j : Int)) (mem_nth (by assumption)) (by have := sizeB_take (l := (nth l (i : Int)).br) (i := j) (by assumption); omega) _ c c') ?_; rintro _ Hz ⟨rfl, hz⟩; subst Hz)
      | refine Gs.mk (fun g => ?_) (fun g => ?_) <;> (try simp only [nm] at g) <;> try (exfalso; first | contradiction | omega)
      | refine Gr.mk (fun g => ?_) (fun g => ?_) <;> (try simp only [nm] at g) <;> try (exfalso; first | contradiction | omega)
      | (refine Run.of ?_; simp (maxSteps := 1000000) (disch := first | omega | assumption | (simp; done) | fail) [*, box_sb, LEl.len, LEl.take4, LEl.drop4, LEl.r0, LEl.r1, LEl.r2, LEl.r3, lenNilS, idx60, idx70, LEl.bRow, wrap_nn, wrap_i64, int_bne, beq_bytes, wk_two, aStep_eq])
    all_goals first
      | (refine Kt_loop ⟨_, ?_, j + 1, ja, jb, rfl, ?_⟩ <;> (repeat' apply And.intro) <;> first | omega | (simp [*]; done) | ((repeat (first | exact AS.Ext.refl _ | assumption | refine AS.Ext.bump ?_ | refine AS.Ext.kill (by first | omega | (simp; omega) | simp) ?_ | refine AS.Ext.setBox (by first | omega | (simp; omega)) ?_)); done) | fail)
      | (refine Kt_loop ⟨_, ?_, i + 1, rfl, ?_⟩ <;> (repeat' apply And.intro) <;> first | omega | (simp [*]; done) | ((repeat (first | exact AS.Ext.refl _ | assumption | refine AS.Ext.bump ?_ | refine AS.Ext.kill (by first | omega | (simp; omega) | simp) ?_ | refine AS.Ext.setBox (by first | omega | (simp; omega)) ?_)); done) | fail)
      | fail)
mutual
theorem saml_items : ∀ (e : LEl), ∀ b ∈ e.br, SamL b
  | .mk o p nm br => saml_rows br
theorem saml_rows : ∀ (br : List (List LEl)), ∀ b ∈ br, SamL b
  | [] => by simp
  | x :: br => by
    have h1 := samL_of x (saml_list x)
    have h2 := saml_rows br
    intro b hb
    rcases List.mem_cons.1 hb with rfl | hb
    · exact h1
    · exact h2 b hb
theorem saml_list : ∀ (l : List LEl), ∀ e ∈ l, ∀ b ∈ e.br, SamL b
  | [] => by simp
  | x :: l => by
    have h1 := saml_items x
    have h2 := saml_list l
    intro e he
    rcases List.mem_cons.1 he with rfl | he
    · exact h1
    · exact h2 e he
end
theorem xSameEl (l : List LEl) : SamL l := samL_of l (saml_list l)
theorem xSameRungs (H : AS) (c c' : Nat) (l : List LRg) (hs : rgS l ≤ 1048576) : ACalls Tryz.prog 23 [PV.sl c 3 (l.map (LRg.row c)), PV.sl c' 3 (l.map (LRg.row c'))] H fun q H' => q = pb true ∧ H' = H := by
  refine ACalls_intro Tryz.func23 rfl (by kernel_rfl) (by simp) fun hwf hbel => ?_
  have hll := rgS_length l
  repeat' first
    | refine T_seq ?_
    | refine T_rgn ?_
    | refine T_cd ?_
    | refine T_sk ?_
    | refine T_rt ?_
    | refine T_block ?_
    | refine T_ex ?_
    | refine Kt_then ?_
    | refine Kt_block ?_
    | refine Kr_then ?_
    | refine Kr_block ?_
    | refine Ke_here ?_
    | refine Ke_then ?_
    | refine Hid.mk ?_
    | refine Gs.mk (fun g => ?_) (fun g => ?_) <;> (try simp only [nm] at g) <;> try (exfalso; first | contradiction | omega)
    | refine Gr.mk (fun g => ?_) (fun g => ?_) <;> (try simp only [nm] at g) <;> try (exfalso; first | contradiction | omega)
    | (refine Run.of ?_; simp (maxSteps := 1000000) (disch := first | omega | assumption | (simp; done) | fail) [*, box_sb, lenNilS, idx55, LRg.row_eq, wrap_nn, wrap_i64, int_bne, wk_two, aStep_eq])
  refine T_lp (fun k F H' => ∃ (i : Nat), k = l.length - i ∧ F 0 = PV.sl c 3 (l.map (LRg.row c)) ∧ F 1 = PV.sl c' 3 (l.map (LRg.row c')) ∧ F 11 = PV.sl c 3 (l.map (LRg.row c)) ∧ F 12 = pi l.length ∧ F 13 = pi i ∧ i ≤ l.length ∧ H.Ext H') _ ⟨0, rfl, by simp, by simp, by simp, by simp, by simp, Nat.zero_le _, .refl _⟩ ?_
  rintro k F H1 ⟨i, rfl, g0, g1, g11, g12, g13, hi, hext⟩
  have hn1 := hext.next
  repeat' first
    | refine T_seq ?_
    | refine T_rgn ?_
    | refine T_cd ?_
    | refine T_sk ?_
    | refine T_rt ?_
    | refine T_block ?_
    | refine T_ex ?_
    | refine Kt_then ?_
    | refine Kt_block ?_
    | refine Kr_then ?_
    | refine Kr_block ?_
    | refine Kr_loop ?_
    | refine Ke_here ?_
    | refine Ke_then ?_
    | refine Ke_loop ?_
    | refine Ke_block ?_
    | refine Hid.mk ?_
    | refine T_dr (id := 6) (fun _ => True) [] (.free 0 (.free 1 (.free 2 (.free 3 (.free 4 (.free 5 (.free 6 (.free 7 (.free 8 (.free 9 (.free 10 (.free 11 (.free 12 (.free 13 (.free 14 (.free 15 (.free 16 (.free 17 (.free 18 (.free 19 (.free 20 (.free 21 (.sole 22 (.free 23 (.free 24 (.free 25 (.free 26 (.free 27 (.free 28 (.free 29 (.free 30 (.free 31 (.free 32 (.free 33 (.free 34 (.free 35 (.sole 36 (.free 37 (.free 38 .done))))))))))))))))))))))))))))))))))))))) mix ?_
    | refine And.intro (fun _ h1 h2 => absurd h2 h1) ?_
    | refine And.intro ?_ ?_
    | (refine callR (xSameEl (nth l (i : Int)).con (by have := rgS_take (l := l) (i := i) (by assumption); omega) _ c c') ?_; rintro _ Hz ⟨rfl, hz⟩; subst Hz)
    | (refine callR (xSameEl (nth l (i : Int)).coils (by have := rgS_take (l := l) (i := i) (by assumption); omega) _ c c') ?_; rintro _ Hz ⟨rfl, hz⟩; subst Hz)
    | refine Gs.mk (fun g => ?_) (fun g => ?_) <;> (try simp only [nm] at g) <;> try (exfalso; first | contradiction | omega)
    | refine Gr.mk (fun g => ?_) (fun g => ?_) <;> (try simp only [nm] at g) <;> try (exfalso; first | contradiction | omega)
    | (refine Run.of ?_; simp (maxSteps := 1000000) (disch := first | omega | assumption | (simp; done) | fail) [*, box_sb, lenNilS, idx55, LRg.row_eq, wrap_nn, wrap_i64, int_bne, wk_two, aStep_eq])
  all_goals first
    | (refine Kx.mk ?_; refine owes_one (.inr rfl) hwf rfl (by first | rfl | (simp [*]; done)) (by first | exact AS.Ext.refl _ | assumption | ((repeat (first | exact AS.Ext.refl _ | assumption | refine AS.Ext.bump ?_ | refine AS.Ext.kill (by first | omega | (simp; omega) | simp) ?_ | refine AS.Ext.setBox (by first | omega | (simp; omega)) ?_)); done)) ?_ ?_ <;> (first | (constructor <;> simp [Frozen]) | exact .val _))
    | (refine Kt_loop ⟨_, ?_, i + 1, rfl, ?_⟩ <;> (repeat' apply And.intro) <;> first | omega | (simp [*]; done) | ((repeat (first | exact AS.Ext.refl _ | assumption | refine AS.Ext.bump ?_ | refine AS.Ext.kill (by first | omega | (simp; omega) | simp) ?_ | refine AS.Ext.setBox (by first | omega | (simp; omega)) ?_)); done) | fail)
    | fail
instance : Inhabited LVr := ⟨⟨⟨#[]⟩, 0, 0⟩⟩
theorem idx27s (c : Nat) (l : List LVr) (i : Int) (h0 : 0 ≤ i) (h1 : i < (l.length : Int)) : aIndexAddr Tryz.prog 27 (PV.sl c 16 (l.map LVr.row)) (pi i) = some (.rptr c (LVr.row (nth l i))) := idx_list under27 Tryz.sz111 _ l i h0 h1
theorem eq108' (k : Int) (d : Nat) : aEqIn Tryz.prog (d + 2) 108 (.agg [k8 k, pb false, pi 0, pi 0, pi 0, pb false, pi 0, pi 0, ps ⟨#[]⟩]) (.agg [k8 k, pb false, pi 0, pi 0, pi 0, pb false, pi 0, pi 0, ps ⟨#[]⟩]) = some true := by
  simp [aEqIn, Program.fieldsOf, aEqIn.go, partOf, aEqCell, beq_bytes]
theorem eq108 (k : Int) : aEqIn Tryz.prog Op.maxDepth 108 (.agg [k8 k, pb false, pi 0, pi 0, pi 0, pb false, pi 0, pi 0, ps ⟨#[]⟩]) (.agg [k8 k, pb false, pi 0, pi 0, pi 0, pb false, pi 0, pi 0, ps ⟨#[]⟩]) = some true := eq108' k 9998
theorem xEqV0 (H : AS) : ACalls Tryz.prog 68 [PV.nilS, PV.nilS] H fun q H' => q = pb true ∧ H' = H := by
  refine ACalls_intro Tryz.func68 rfl (by kernel_rfl) (by simp) fun hwf hbel => ?_
  repeat' first
    | refine T_seq ?_
    | refine T_rgn ?_
    | refine T_cd ?_
    | refine T_sk ?_
    | refine T_rt ?_
    | refine T_block ?_
    | refine T_ex ?_
    | refine Kt_then ?_
    | refine Kt_block ?_
    | refine Kr_then ?_
    | refine Kr_block ?_
    | refine Ke_here ?_
    | refine Ke_then ?_
    | refine Hid.mk ?_
    | refine Gs.mk (fun g => ?_) (fun g => ?_) <;> (try simp only [nm] at g) <;> try (exfalso; first | contradiction | omega)
    | refine Gr.mk (fun g => ?_) (fun g => ?_) <;> (try simp only [nm] at g) <;> try (exfalso; first | contradiction | omega)
    | (refine Run.of ?_; simp (maxSteps := 1000000) (disch := first | omega | assumption | (simp; done) | fail) [*, lenNilS, wrap_i64])
  refine T_lp (fun k F H' => k = 0 ∧ F 12 = pi 0 ∧ F 13 = pi 0 ∧ H.Ext H') 0 ⟨rfl, by simp, by simp, .refl _⟩ ?_
  rintro k F H1 ⟨rfl, g12, g13, hext⟩
  repeat' first
    | refine T_seq ?_
    | refine T_rgn ?_
    | refine T_cd ?_
    | refine T_sk ?_
    | refine T_rt ?_
    | refine T_block ?_
    | refine T_ex ?_
    | refine Kt_then ?_
    | refine Kt_block ?_
    | refine Kr_then ?_
    | refine Kr_block ?_
    | refine Kr_loop ?_
    | refine Ke_here ?_
    | refine Ke_then ?_
    | refine Ke_loop ?_
    | refine Ke_block ?_
    | refine Hid.mk ?_
    | refine Gs.mk (fun g => ?_) (fun g => ?_) <;> (try simp only [nm] at g) <;> try (exfalso; first | contradiction | omega)
    | refine Gr.mk (fun g => ?_) (fun g => ?_) <;> (try simp only [nm] at g) <;> try (exfalso; first | contradiction | omega)
    | (refine Run.of ?_; simp (maxSteps := 1000000) (disch := first | omega | assumption | (simp; done) | fail) [*, lenNilS, wrap_i64])
  all_goals (refine Kx.mk ?_; refine owes_one (.inr rfl) hwf rfl (by first | rfl | (simp [*]; done)) (by first | exact AS.Ext.refl _ | assumption | ((repeat (first | exact AS.Ext.refl _ | assumption | refine AS.Ext.bump ?_ | refine AS.Ext.kill (by first | omega | (simp; omega) | simp) ?_ | refine AS.Ext.setBox (by first | omega | (simp; omega)) ?_)); done)) ?_ ?_ <;> (first | (constructor <;> simp [Frozen]) | exact .val _))
theorem xSameVars (H : AS) (c c' : Nat) (l : List LVr) (hs : l.length < 1099511627776) : ACalls Tryz.prog 22 [PV.sl c 16 (l.map LVr.row), PV.sl c' 16 (l.map LVr.row)] H fun q H' => q = pb true ∧ H' = H := by
  refine ACalls_intro Tryz.func22 rfl (by kernel_rfl) (by simp) fun hwf hbel => ?_
  repeat' first
    | refine T_seq ?_
    | refine T_rgn ?_
    | refine T_cd ?_
    | refine T_sk ?_
    | refine T_rt ?_
    | refine T_block ?_
    | refine T_ex ?_
    | refine Kt_then ?_
    | refine Kt_block ?_
    | refine Kr_then ?_
    | refine Kr_block ?_
    | refine Ke_here ?_
    | refine Ke_then ?_
    | refine Hid.mk ?_
    | refine Gs.mk (fun g => ?_) (fun g => ?_) <;> (try simp only [nm] at g) <;> try (exfalso; first | contradiction | omega)
    | refine Gr.mk (fun g => ?_) (fun g => ?_) <;> (try simp only [nm] at g) <;> try (exfalso; first | contradiction | omega)
    | (refine Run.of ?_; simp (maxSteps := 1000000) (disch := first | omega | assumption | (simp; done) | fail) [*, box_sb, lenNilS, idx27s, LVr.row, wrap_nn, wrap_i64, int_bne, beq_bytes, eq108, wk_two, aStep_eq])
  refine T_lp (fun k F H' => ∃ (i : Nat), k = l.length - i ∧ F 0 = PV.sl c 16 (l.map LVr.row) ∧ F 1 = PV.sl c' 16 (l.map LVr.row) ∧ F 13 = PV.sl c 16 (l.map LVr.row) ∧ F 14 = pi l.length ∧ F 15 = pi i ∧ i ≤ l.length ∧ H.Ext H') _ ⟨0, rfl, by simp, by simp, by simp, by simp, by simp, Nat.zero_le _, .refl _⟩ ?_
  rintro k F H1 ⟨i, rfl, g0, g1, g13, g14, g15, hi, hext⟩
  have hn1 := hext.next
  have e1 : ¬ H1.next = H1.next + 1 := by omega
  have e2 : ¬ H1.next + 1 = H1.next := by omega
  repeat' first
    | refine T_seq ?_
    | refine T_rgn ?_
    | refine T_cd ?_
    | refine T_sk ?_
    | refine T_rt ?_
    | refine T_block ?_
    | refine T_ex ?_
    | refine Kt_then ?_
    | refine Kt_block ?_
    | refine Kr_then ?_
    | refine Kr_block ?_
    | refine Kr_loop ?_
    | refine Ke_here ?_
    | refine Ke_then ?_
    | refine Ke_loop ?_
    | refine Ke_block ?_
    | refine Hid.mk ?_
    | refine T_dr (id := 6) (fun _ => False) [11] (.free 0 (.free 1 (.free 2 (.free 3 (.free 4 (.free 5 (.free 6 (.free 7 (.two 8 9 (.sole 9 (.sole 10 (.sole 11 .done))) (.sole 8 (.sole 10 (.sole 11 .done)))))))))))) mix ?_
    | refine And.intro (fun _ h1 h2 => absurd h2 h1) ?_
    | refine And.intro ?_ ?_
    | (refine callR (xEqV0 _) ?_; rintro _ Hz ⟨rfl, hz⟩; subst Hz)
    | refine Gs.mk (fun g => ?_) (fun g => ?_) <;> (try simp only [nm] at g) <;> try (exfalso; first | contradiction | omega)
    | refine Gr.mk (fun g => ?_) (fun g => ?_) <;> (try simp only [nm] at g) <;> try (exfalso; first | contradiction | omega)
    | (refine Run.of ?_; simp (maxSteps := 1000000) (disch := first | omega | assumption | (simp; done) | fail) [*, box_sb, lenNilS, idx27s, LVr.row, wrap_nn, wrap_i64, int_bne, beq_bytes, eq108, wk_two, aStep_eq])
  all_goals first
    | (refine Kx.mk ?_; refine owes_one (.inr rfl) hwf rfl (by first | rfl | (simp [*]; done)) (by first | exact AS.Ext.refl _ | assumption | ((repeat (first | exact AS.Ext.refl _ | assumption | refine AS.Ext.bump ?_ | refine AS.Ext.kill (by first | omega | (simp; omega) | simp) ?_ | refine AS.Ext.setBox (by first | omega | (simp; omega)) ?_)); done)) ?_ ?_ <;> (first | (constructor <;> simp [Frozen]) | exact .val _))
    | (refine Kt_loop ⟨_, ?_, i + 1, rfl, ?_⟩ <;> (repeat' apply And.intro) <;> first | omega | (simp [*]; done) | ((repeat (first | exact AS.Ext.refl _ | assumption | refine AS.Ext.bump ?_ | refine AS.Ext.kill (by first | omega | (simp; omega) | simp) ?_ | refine AS.Ext.setBox (by first | omega | (simp; omega)) ?_)); done) | fail)
    | fail
end
section
set_option maxHeartbeats 4000000
attribute [local simp ↓] wanted_at hbind_some
attribute [local simp] Gs_true Gs_false gcond_Gr Gr_true Gr_false abox frame0 int_beq int_bne  Keeps Same splice aUn aFieldAddr aField aBin aBinV aConvert aExtract aLen aBuild aBuild.go aalloc AS.Ext.refl AS.Ext.bump AS.Ext.setBox
/-- Cells that may be written over: values stay values. -/
def CellS (a b : PV) : Prop := b = a ∨ ∃ x y, a = .val x ∧ b = .val y
def RowS (r r' : List PV) : Prop := r'.length = r.length ∧ ∀ (j : Nat) (p p' : PV), r[j]? = some p → r'[j]? = some p' → CellS p p'
def BoxS (rows rows' : List (List PV)) : Prop := rows'.length = rows.length ∧ ∀ (i : Nat) (r r' : List PV), rows[i]? = some r → rows'[i]? = some r' → RowS r r'
/-- Memory that was written over from a number on; lists stay where they were. -/
structure Pz (lo : Nat) (H H' : AS) : Prop where
  next : H'.next = H.next
  color : H'.color = H.color
  mp : ∀ id, H'.mp id = H.mp id
  old : ∀ id, id < lo → H'.box id = H.box id
  box : ∀ id rows, H.box id = some rows → ∃ rows', H'.box id = some rows' ∧ BoxS rows rows'
theorem CellS.trans {a b c : PV} (h : CellS a b) (h' : CellS b c) : CellS a c := by
  rcases h with rfl | ⟨x, y, rfl, rfl⟩
  · exact h'
  · rcases h' with rfl | ⟨x', y', e, rfl⟩
    · exact .inr ⟨_, _, rfl, rfl⟩
    · exact .inr ⟨_, _, rfl, rfl⟩
theorem RowS.refl (r : List PV) : RowS r r := ⟨rfl, fun j p p' h h' => by rw [h] at h'; cases h'; exact .inl rfl⟩
theorem RowS.trans {a b c : List PV} (h : RowS a b) (h' : RowS b c) : RowS a c := by
  refine ⟨h'.1.trans h.1, fun j p p' e e' => ?_⟩
  obtain ⟨q, hq⟩ := get_of_lt (l := b) (i := j) (by rw [h.1]; exact (List.getElem?_eq_some_iff.1 e).1)
  exact (h.2 j p q e hq).trans (h'.2 j q p' hq e')
theorem BoxS.refl (r : List (List PV)) : BoxS r r := ⟨rfl, fun j p p' h h' => by rw [h] at h'; cases h'; exact .refl _⟩
theorem BoxS.trans {a b c : List (List PV)} (h : BoxS a b) (h' : BoxS b c) : BoxS a c := by
  refine ⟨h'.1.trans h.1, fun j p p' e e' => ?_⟩
  obtain ⟨q, hq⟩ := get_of_lt (l := b) (i := j) (by rw [h.1]; exact (List.getElem?_eq_some_iff.1 e).1)
  exact (h.2 j p q e hq).trans (h'.2 j q p' hq e')
theorem Pz.refl (lo : Nat) (H : AS) : Pz lo H H := ⟨rfl, rfl, fun _ => rfl, fun _ _ => rfl, fun id rows e => ⟨rows, e, .refl _⟩⟩
theorem Pz.trans {lo : Nat} {H H1 H2 : AS} (h : Pz lo H H1) (h' : Pz lo H1 H2) : Pz lo H H2 := by
  refine ⟨h'.next.trans h.next, h'.color.trans h.color, fun id => (h'.mp id).trans (h.mp id), fun id hi => (h'.old id hi).trans (h.old id hi), fun id rows e => ?_⟩
  obtain ⟨r1, e1, b1⟩ := h.box id rows e
  obtain ⟨r2, e2, b2⟩ := h'.box id r1 e1
  exact ⟨r2, e2, b1.trans b2⟩
theorem Pz.ext {lo : Nat} {H0 H H' : AS} (h : Pz lo H H') (he : H0.Ext H) (hl : H0.next ≤ lo) : H0.Ext H' :=
  ⟨by rw [h.next]; exact he.next, fun id hi => by rw [h.old id (by omega)]; exact he.box id hi, fun id hi => by rw [h.mp id]; exact he.mp id hi, by rw [h.color]; exact he.color⟩
/-- A list's cell that is no value stays. -/
def Hd (p : PV) : Prop := ∀ v, p ≠ .val v
theorem CellS.hd {p p' : PV} (h : CellS p p') (hh : Hd p) : p' = p := by
  rcases h with rfl | ⟨x, y, rfl, rfl⟩
  · rfl
  · exact absurd rfl (hh x)
theorem Pz.cell {lo id i o : Nat} {H H' : AS} {rows : List (List PV)} {r : List PV} {p : PV} (h : Pz lo H H') (hb : H.box id = some rows) (hr : rows[i]? = some r) (hp : r[o]? = some p) :
    ∃ rows' r' p', H'.box id = some rows' ∧ rows'.length = rows.length ∧ rows'[i]? = some r' ∧ r'.length = r.length ∧ r'[o]? = some p' ∧ CellS p p' := by
  obtain ⟨rows', e1, e2⟩ := h.box id rows hb
  obtain ⟨r', hr'⟩ := get_of_lt (l := rows') (i := i) (by rw [e2.1]; exact (List.getElem?_eq_some_iff.1 hr).1)
  have e3 := e2.2 i r r' hr hr'
  obtain ⟨p', hp'⟩ := get_of_lt (l := r') (i := o) (by rw [e3.1]; exact (List.getElem?_eq_some_iff.1 hp).1)
  exact ⟨rows', r', p', e1, e2.1, hr', e3.1, hp', e3.2 o p p' hp hp'⟩
/-- What is read of a list's cell. -/
theorem ld_cell {P : Program} {H : AS} {t : TypeId} {id n i o : Nat} {rows : List (List PV)} {r : List PV} {p : PV} (ht : aggOf P t = some false) (hb : H.box id = some rows) (hn : rows.length = n) (hr : rows[i]? = some r) (hp : r[o]? = some p) : aload P H t (.ptr id n i o) = some p := by
  simp [aload, hb, hn, hr, partOf, ht, hp]
theorem Pz.load {P : Program} {lo id n i o : Nat} {H H' : AS} {t : TypeId} {p : PV} (h : Pz lo H H') (ht : aggOf P t = some false) (hl : aload P H t (.ptr id n i o) = some p) (hh : Hd p) : aload P H' t (.ptr id n i o) = some p := by
  simp only [aload] at hl
  cases hb : H.box id with
  | none => rw [hb] at hl; cases hl
  | some rows =>
    rw [hb] at hl
    dsimp only at hl
    split at hl
    · rename_i hn
      cases hr : rows[i]? with
      | none => rw [hr] at hl; cases hl
      | some r =>
        rw [hr] at hl
        simp only [Option.bind_some, partOf, ht] at hl
        obtain ⟨rows', r', p', g1, g2, g3, g4, g5, g6⟩ := h.cell hb hr hl
        rw [g6.hd hh] at g5
        exact ld_cell ht g1 (g2.trans hn) g3 g5
    · cases hl
/-- A value written over a value. -/
theorem st_cell {P : Program} {lo id n i o : Nat} {H : AS} {t : TypeId} {rows : List (List PV)} {r : List PV} {x y : Value} (hlo : lo ≤ id) (ht : szOf P t = some 1) (hb : H.box id = some rows) (hn : rows.length = n) (hr : rows[i]? = some r) (hp : r[o]? = some (.val x)) (ho : (PV.val y).okCells = true) (hc : (PV.val y).cells = [.val y]) :
    ∃ H', astore P H t (.ptr id n i o) (.val y) = some H' ∧ Pz lo H H' := by
  have hol := (List.getElem?_eq_some_iff.1 hp).1
  have hil := (List.getElem?_eq_some_iff.1 hr).1
  refine ⟨H.setBox id (rows.set i (splice r o [.val y])), ?_, rfl, rfl, fun _ => rfl, fun j hj => ?_, fun j rs e => ?_⟩
  · simp only [astore, hb, ht, hc]
    rw [if_pos ⟨hn, rfl, ho⟩, hr, Option.bind_some, if_pos (by omega)]
  · simp [show ¬ j = id by omega]
  · by_cases hj : j = id
    · subst hj
      rw [hb] at e; cases e
      refine ⟨rows.set i (splice r o [.val y]), by rw [setBox_box, if_pos rfl], by simp, fun k r1 r2 a1 a2 => ?_⟩
      rw [List.getElem?_set] at a2
      split at a2
      · rename_i e1
        subst e1
        · rw [hr] at a1; cases a1; first | (cases a2) | (rw [if_pos hil] at a2; cases a2)
          refine ⟨by simp [splice]; omega, fun q p p' b1 b2 => ?_⟩
          have hsp : splice r o [.val y] = r.set o (.val y) := by
            unfold splice
            rw [List.set_eq_take_append_cons_drop, if_pos hol]
            simp
          rw [hsp, List.getElem?_set] at b2
          split at b2
          · rename_i e2
            subst e2
            rw [hp] at b1; cases b1
            first | (cases b2) | (rw [if_pos hol] at b2; cases b2)
            exact .inr ⟨_, _, rfl, rfl⟩
          · rw [b1] at b2; cases b2; exact .inl rfl
      · rw [a1] at a2; cases a2; exact .refl _
    · exact ⟨rs, by simp [hj, e], .refl _⟩
/-- A list of values of one cell each that may be written over. -/
def ShN (H : AS) (lo n : Nat) (p : PV) : Prop := (n = 0 ∧ p = .nilS) ∨ (0 < n ∧ ∃ id rows, p = .msl id n 1 ∧ lo ≤ id ∧ H.box id = some rows ∧ rows.length = n ∧ ∀ (i : Nat) (r : List PV), rows[i]? = some r → ∃ x, r[0]? = some (.val x))
def LEx.kids : LEx → List LEx | .mk _ _ _ _ _ _ _ ks _ => ks
def LEx.nms : LEx → List ByteArray | .mk _ _ _ _ _ _ _ _ ns => ns
mutual
/-- An expression that may be written over: its shape. -/
def ShE (H : AS) (lo : Nat) : LEx → List PV → Prop
  | .mk _ _ _ _ _ _ _ ks ns, r => (∃ x, r[0]? = some (.val x)) ∧ (∃ x, r[2]? = some (.val x)) ∧ (∃ p, r[7]? = some p ∧ ShL H lo ks p) ∧ ∃ p, r[8]? = some p ∧ ShN H lo ns.length p
def ShL (H : AS) (lo : Nat) : List LEx → PV → Prop
  | [], p => p = .nilS
  | k :: ks, p => ∃ id r rs, p = .msl id (ks.length + 1) 14 ∧ lo ≤ id ∧ H.box id = some (r :: rs) ∧ ShE H lo k r ∧ ShR H lo ks rs
def ShR (H : AS) (lo : Nat) : List LEx → List (List PV) → Prop
  | [], rows => rows = []
  | k :: ks, rows => ∃ r rs, rows = r :: rs ∧ ShE H lo k r ∧ ShR H lo ks rs
end
theorem hd_nilS : Hd .nilS := fun v e => by cases e
theorem hd_msl {id n s : Nat} : Hd (.msl id n s) := fun v e => by cases e
theorem ShN.hd {H : AS} {lo n : Nat} {p : PV} (h : ShN H lo n p) : Hd p := by
  rcases h with ⟨_, rfl⟩ | ⟨_, id, rows, rfl, _⟩
  · exact hd_nilS
  · exact hd_msl
theorem ShN.len {H : AS} {lo n : Nat} {p : PV} (h : ShN H lo n p) : lenOf p = some n := by
  rcases h with ⟨rfl, rfl⟩ | ⟨_, id, rows, rfl, _⟩
  · rfl
  · rfl
theorem ShL.hd {H : AS} {lo : Nat} {l : List LEx} {p : PV} (h : ShL H lo l p) : Hd p := by
  cases l with
  | nil => rw [ShL] at h; subst h; exact hd_nilS
  | cons k ks => rw [ShL] at h; obtain ⟨id, r, rs, rfl, _⟩ := h; exact hd_msl
theorem ShL.len {H : AS} {lo : Nat} {l : List LEx} {p : PV} (h : ShL H lo l p) : lenOf p = some l.length := by
  cases l with
  | nil => rw [ShL] at h; subst h; rfl
  | cons k ks => rw [ShL] at h; obtain ⟨id, r, rs, rfl, _⟩ := h; rfl
theorem ShN.mono {H H' : AS} {lo n : Nat} {p : PV} (h : ShN H lo n p) (hp : Pz lo H H') : ShN H' lo n p := by
  rcases h with h | ⟨h0, id, rows, rfl, h1, h2, h3, h4⟩
  · exact .inl h
  · obtain ⟨rows', e1, e2⟩ := hp.box id rows h2
    refine .inr ⟨h0, id, rows', rfl, h1, e1, e2.1.trans h3, fun i r' hr' => ?_⟩
    obtain ⟨r, hr⟩ := get_of_lt (l := rows) (i := i) (by rw [← e2.1]; exact (List.getElem?_eq_some_iff.1 hr').1)
    obtain ⟨x, hx⟩ := h4 i r hr
    have e3 := e2.2 i r r' hr hr'
    obtain ⟨p', hp'⟩ := get_of_lt (l := r') (i := 0) (by rw [e3.1]; exact (List.getElem?_eq_some_iff.1 hx).1)
    rcases e3.2 0 _ p' hx hp' with rfl | ⟨_, y, _, rfl⟩
    · exact ⟨_, hp'⟩
    · exact ⟨_, hp'⟩
theorem rowS_val {r r' : List PV} {o : Nat} (h : RowS r r') (hx : ∃ x, r[o]? = some (.val x)) : ∃ x, r'[o]? = some (.val x) := by
  obtain ⟨x, hx⟩ := hx
  obtain ⟨p', hp'⟩ := get_of_lt (l := r') (i := o) (by rw [h.1]; exact (List.getElem?_eq_some_iff.1 hx).1)
  rcases h.2 o _ p' hx hp' with rfl | ⟨_, y, _, rfl⟩
  · exact ⟨_, hp'⟩
  · exact ⟨_, hp'⟩
theorem rowS_hd {r r' : List PV} {o : Nat} {p : PV} (h : RowS r r') (hx : r[o]? = some p) (hh : Hd p) : r'[o]? = some p := by
  obtain ⟨p', hp'⟩ := get_of_lt (l := r') (i := o) (by rw [h.1]; exact (List.getElem?_eq_some_iff.1 hx).1)
  rw [(h.2 o _ p' hx hp').hd hh] at hp'; exact hp'
theorem boxS_cons {r : List PV} {rs rows' : List (List PV)} (h : BoxS (r :: rs) rows') : ∃ r' rs', rows' = r' :: rs' ∧ RowS r r' ∧ BoxS rs rs' := by
  cases rows' with
  | nil => have := h.1; simp at this
  | cons r' rs' => exact ⟨r', rs', rfl, h.2 0 r r' rfl rfl, by have := h.1; simpa using this, fun i a b e1 e2 => h.2 (i + 1) a b (by simpa using e1) (by simpa using e2)⟩
mutual
theorem ShE.mono {H H' : AS} {lo : Nat} (hp : Pz lo H H') : ∀ (e : LEx) (r r' : List PV), RowS r r' → ShE H lo e r → ShE H' lo e r'
  | .mk _ _ _ _ _ _ _ ks ns, r, r', hr, h => by
    rw [ShE] at h ⊢
    obtain ⟨h0, h2, ⟨p, h7, hl⟩, q, h8, hn⟩ := h
    exact ⟨rowS_val hr h0, rowS_val hr h2, ⟨p, rowS_hd hr h7 hl.hd, ShL.mono hp ks p hl⟩, q, rowS_hd hr h8 hn.hd, hn.mono hp⟩
theorem ShL.mono {H H' : AS} {lo : Nat} (hp : Pz lo H H') : ∀ (l : List LEx) (p : PV), ShL H lo l p → ShL H' lo l p
  | [], p, h => by rw [ShL] at h ⊢; exact h
  | k :: ks, p, h => by
    rw [ShL] at h ⊢
    obtain ⟨id, r, rs, h1, h2, h3, h4, h5⟩ := h
    obtain ⟨rows', e1, e2⟩ := hp.box id _ h3
    obtain ⟨r', rs', rfl, e3, e4⟩ := boxS_cons e2
    exact ⟨id, r', rs', h1, h2, e1, ShE.mono hp k r r' e3 h4, ShR.mono hp ks rs rs' e4 h5⟩
theorem ShR.mono {H H' : AS} {lo : Nat} (hp : Pz lo H H') : ∀ (l : List LEx) (rs rs' : List (List PV)), BoxS rs rs' → ShR H lo l rs → ShR H' lo l rs'
  | [], rs, rs', hb, h => by
    rw [ShR] at h ⊢
    subst h
    exact List.length_eq_zero_iff.1 hb.1
  | k :: ks, rs, rs', hb, h => by
    rw [ShR] at h ⊢
    obtain ⟨r, rs1, rfl, h4, h5⟩ := h
    obtain ⟨r', rs2, rfl, e3, e4⟩ := boxS_cons hb
    exact ⟨r', rs2, rfl, ShE.mono hp k r r' e3 h4, ShR.mono hp ks rs1 rs2 e4 h5⟩
end
theorem ShR.at' {H : AS} {lo : Nat} : ∀ (l : List LEx) (rs : List (List PV)) (i : Nat), ShR H lo l rs → i < l.length → ∃ r e, rs[i]? = some r ∧ l[i]? = some e ∧ ShE H lo e r
  | [], rs, i, h, hi => by simp at hi
  | k :: ks, rs, i, h, hi => by
    rw [ShR] at h
    obtain ⟨r, rs1, rfl, h4, h5⟩ := h
    cases i with
    | zero => exact ⟨r, k, rfl, rfl, h4⟩
    | succ i => obtain ⟨r', e, a, b, c⟩ := ShR.at' ks rs1 i h5 (by simpa using hi); exact ⟨r', e, by simpa using a, by simpa using b, c⟩
theorem ShR.len {H : AS} {lo : Nat} : ∀ (l : List LEx) (rs : List (List PV)), ShR H lo l rs → rs.length = l.length
  | [], rs, h => by rw [ShR] at h; subst h; rfl
  | k :: ks, rs, h => by
    rw [ShR] at h
    obtain ⟨r, rs1, rfl, h4, h5⟩ := h
    simp [ShR.len ks rs1 h5]
theorem ShL.at' {H : AS} {lo i : Nat} {l : List LEx} {p : PV} (h : ShL H lo l p) (hi : i < l.length) : ∃ id rows r, p = .msl id l.length 14 ∧ lo ≤ id ∧ H.box id = some rows ∧ rows.length = l.length ∧ rows[i]? = some r ∧ ShE H lo (nth l (i : Int)) r := by
  cases l with
  | nil => simp at hi
  | cons k ks =>
    rw [ShL] at h
    obtain ⟨id, r, rs, rfl, h2, h3, h4, h5⟩ := h
    obtain ⟨r', e, a, b, c⟩ := ShR.at' (k :: ks) (r :: rs) i (by rw [ShR]; exact ⟨r, rs, rfl, h4, h5⟩) hi
    have he : nth (k :: ks) (i : Int) = e := by
      rw [nth_get hi]
      have := List.getElem?_eq_getElem hi
      rw [this] at b; cases b; rfl
    exact ⟨id, r :: rs, r', rfl, h2, h3, by simp [ShR.len ks rs h5], a, by rw [he]; exact c⟩
theorem agg42 : aggOf Tryz.prog 42 = some false := by rfl
theorem agg43 : aggOf Tryz.prog 43 = some false := by rfl
theorem agg26 : aggOf Tryz.prog 26 = some false := by rfl
theorem agg49 : aggOf Tryz.prog 49 = some false := by rfl
theorem sz_3 : szOf Tryz.prog 3 = some 1 := by rfl
theorem sz_9 : szOf Tryz.prog 9 = some 1 := by rfl
theorem idx42m (id n i : Nat) (h : i < n) : aIndexAddr Tryz.prog 42 (.msl id n 14) (pi i) = some (.ptr id n i 0) := by
  unfold aIndexAddr; rw [under42]; simp [amsl h]
theorem idx43m (id n i : Nat) (h : i < n) : aIndexAddr Tryz.prog 43 (.msl id n 1) (pi i) = some (.ptr id n i 0) := by
  unfold aIndexAddr; rw [under43]; simp [amsl h]
/-- What is read and written of an element. -/
structure At42 (H : AS) (lo id n i : Nat) (ks : List LEx) (m : Nat) (p7 p8 : PV) : Prop where
  l7 : aload Tryz.prog H 42 (.ptr id n i 7) = some p7
  l8 : aload Tryz.prog H 43 (.ptr id n i 8) = some p8
  k7 : ShL H lo ks p7
  k8 : ShN H lo m p8
  s0 : ∀ x, ∃ H', astore Tryz.prog H 3 (.ptr id n i 0) (pi x) = some H' ∧ Pz lo H H'
  s2 : ∀ x, ∃ H', astore Tryz.prog H 9 (.ptr id n i 2) (ps x) = some H' ∧ Pz lo H H'
theorem ShL.at42 {H : AS} {lo id n i : Nat} {l : List LEx} (h : ShL H lo l (.msl id n 14)) (hi : i < l.length) : ∃ p7 p8, At42 H lo id n i (nth l (i : Int)).kids (nth l (i : Int)).nms.length p7 p8 := by
  obtain ⟨id', rows, r, e, h1, h2, h3, h4, h5⟩ := h.at' hi
  cases e
  revert h5
  cases nth l (i : Int) with
  | mk o a nm f vk vb vt ks ns =>
    intro h5
    rw [ShE] at h5
    obtain ⟨⟨x0, g0⟩, ⟨x2, g2⟩, ⟨p7, g7, k7⟩, p8, g8, k8⟩ := h5
    exact ⟨p7, p8, ld_cell agg42 h2 h3 h4 g7, ld_cell agg43 h2 h3 h4 g8, k7, k8, fun x => st_cell h1 sz_3 h2 h3 h4 g0 rfl rfl, fun x => st_cell h1 sz_9 h2 h3 h4 g2 rfl rfl⟩
theorem ShN.st {H : AS} {lo n j : Nat} {p : PV} (h : ShN H lo n p) (hj : j < n) : ∃ id, p = .msl id n 1 ∧ ∀ x, ∃ H', astore Tryz.prog H 9 (.ptr id n j 0) (ps x) = some H' ∧ Pz lo H H' := by
  rcases h with ⟨rfl, _⟩ | ⟨_, id, rows, rfl, h1, h2, h3, h4⟩
  · omega
  · obtain ⟨r, hr⟩ := get_of_lt (l := rows) (i := j) (by omega)
    obtain ⟨x0, hx⟩ := h4 j r hr
    exact ⟨id, rfl, fun x => st_cell h1 sz_9 h2 h3 hr hx rfl rfl⟩
/-- A statement's shape. -/
def LSt.xs : LSt → List LEx | .mk _ _ _ x _ _ => x
def LSt.nms : LSt → List ByteArray | .mk _ _ _ _ ns _ => ns
def LSt.bdy : LSt → List LSt | .mk _ _ _ _ _ b => b
mutual
def ShS (H : AS) (lo : Nat) : LSt → List PV → Prop
  | .mk _ _ _ xs ns b, r => (∃ x, r[0]? = some (.val x)) ∧ (∃ x, r[2]? = some (.val x)) ∧ (∃ p, r[4]? = some p ∧ ShL H lo xs p) ∧ (∃ p, r[5]? = some p ∧ ShN H lo ns.length p) ∧ r[6]? = some .nilS ∧ r[8]? = some .nilS ∧ (∃ p, r[9]? = some p ∧ ShB H lo b p) ∧ r[10]? = some .nilS
def ShB (H : AS) (lo : Nat) : List LSt → PV → Prop
  | [], p => p = .nilS
  | k :: ks, p => ∃ id r rs, p = .msl id (ks.length + 1) 14 ∧ lo ≤ id ∧ H.box id = some (r :: rs) ∧ ShS H lo k r ∧ ShT H lo ks rs
def ShT (H : AS) (lo : Nat) : List LSt → List (List PV) → Prop
  | [], rows => rows = []
  | k :: ks, rows => ∃ r rs, rows = r :: rs ∧ ShS H lo k r ∧ ShT H lo ks rs
end
theorem ShB.hd {H : AS} {lo : Nat} {l : List LSt} {p : PV} (h : ShB H lo l p) : Hd p := by
  cases l with
  | nil => rw [ShB] at h; subst h; exact hd_nilS
  | cons k ks => rw [ShB] at h; obtain ⟨id, r, rs, rfl, _⟩ := h; exact hd_msl
theorem ShB.len {H : AS} {lo : Nat} {l : List LSt} {p : PV} (h : ShB H lo l p) : lenOf p = some l.length := by
  cases l with
  | nil => rw [ShB] at h; subst h; rfl
  | cons k ks => rw [ShB] at h; obtain ⟨id, r, rs, rfl, _⟩ := h; rfl
mutual
theorem ShS.mono {H H' : AS} {lo : Nat} (hp : Pz lo H H') : ∀ (e : LSt) (r r' : List PV), RowS r r' → ShS H lo e r → ShS H' lo e r'
  | .mk _ _ _ xs ns b, r, r', hr, h => by
    rw [ShS] at h ⊢
    obtain ⟨h0, h2, ⟨p, h4, hl⟩, ⟨q, h5, hn⟩, h6, h8, ⟨p9, h9, hb⟩, h10⟩ := h
    exact ⟨rowS_val hr h0, rowS_val hr h2, ⟨p, rowS_hd hr h4 hl.hd, ShL.mono hp xs p hl⟩, ⟨q, rowS_hd hr h5 hn.hd, hn.mono hp⟩, rowS_hd hr h6 hd_nilS, rowS_hd hr h8 hd_nilS, ⟨p9, rowS_hd hr h9 hb.hd, ShB.mono hp b p9 hb⟩, rowS_hd hr h10 hd_nilS⟩
theorem ShB.mono {H H' : AS} {lo : Nat} (hp : Pz lo H H') : ∀ (l : List LSt) (p : PV), ShB H lo l p → ShB H' lo l p
  | [], p, h => by rw [ShB] at h ⊢; exact h
  | k :: ks, p, h => by
    rw [ShB] at h ⊢
    obtain ⟨id, r, rs, h1, h2, h3, h4, h5⟩ := h
    obtain ⟨rows', e1, e2⟩ := hp.box id _ h3
    obtain ⟨r', rs', rfl, e3, e4⟩ := boxS_cons e2
    exact ⟨id, r', rs', h1, h2, e1, ShS.mono hp k r r' e3 h4, ShT.mono hp ks rs rs' e4 h5⟩
theorem ShT.mono {H H' : AS} {lo : Nat} (hp : Pz lo H H') : ∀ (l : List LSt) (rs rs' : List (List PV)), BoxS rs rs' → ShT H lo l rs → ShT H' lo l rs'
  | [], rs, rs', hb, h => by
    rw [ShT] at h ⊢
    subst h
    exact List.length_eq_zero_iff.1 hb.1
  | k :: ks, rs, rs', hb, h => by
    rw [ShT] at h ⊢
    obtain ⟨r, rs1, rfl, h4, h5⟩ := h
    obtain ⟨r', rs2, rfl, e3, e4⟩ := boxS_cons hb
    exact ⟨r', rs2, rfl, ShS.mono hp k r r' e3 h4, ShT.mono hp ks rs1 rs2 e4 h5⟩
end
theorem ShT.at' {H : AS} {lo : Nat} : ∀ (l : List LSt) (rs : List (List PV)) (i : Nat), ShT H lo l rs → i < l.length → ∃ r e, rs[i]? = some r ∧ l[i]? = some e ∧ ShS H lo e r
  | [], rs, i, h, hi => by simp at hi
  | k :: ks, rs, i, h, hi => by
    rw [ShT] at h
    obtain ⟨r, rs1, rfl, h4, h5⟩ := h
    cases i with
    | zero => exact ⟨r, k, rfl, rfl, h4⟩
    | succ i => obtain ⟨r', e, a, b, c⟩ := ShT.at' ks rs1 i h5 (by simpa using hi); exact ⟨r', e, by simpa using a, by simpa using b, c⟩
theorem ShT.len {H : AS} {lo : Nat} : ∀ (l : List LSt) (rs : List (List PV)), ShT H lo l rs → rs.length = l.length
  | [], rs, h => by rw [ShT] at h; subst h; rfl
  | k :: ks, rs, h => by
    rw [ShT] at h
    obtain ⟨r, rs1, rfl, h4, h5⟩ := h
    simp [ShT.len ks rs1 h5]
theorem ShB.at' {H : AS} {lo i : Nat} {l : List LSt} {p : PV} (h : ShB H lo l p) (hi : i < l.length) : ∃ id rows r, p = .msl id l.length 14 ∧ lo ≤ id ∧ H.box id = some rows ∧ rows.length = l.length ∧ rows[i]? = some r ∧ ShS H lo (nth l (i : Int)) r := by
  cases l with
  | nil => simp at hi
  | cons k ks =>
    rw [ShB] at h
    obtain ⟨id, r, rs, rfl, h2, h3, h4, h5⟩ := h
    obtain ⟨r', e, a, b, c⟩ := ShT.at' (k :: ks) (r :: rs) i (by rw [ShT]; exact ⟨r, rs, rfl, h4, h5⟩) hi
    have he : nth (k :: ks) (i : Int) = e := by
      rw [nth_get hi]
      have := List.getElem?_eq_getElem hi
      rw [this] at b; cases b; rfl
    exact ⟨id, r :: rs, r', rfl, h2, h3, by simp [ShT.len ks rs h5], a, by rw [he]; exact c⟩
/-- What is read and written of a statement. -/
structure At26 (H : AS) (lo id n i : Nat) (s : LSt) (p4 p5 p9 : PV) : Prop where
  l4 : aload Tryz.prog H 42 (.ptr id n i 4) = some p4
  l5 : aload Tryz.prog H 43 (.ptr id n i 5) = some p5
  l6 : aload Tryz.prog H 42 (.ptr id n i 6) = some .nilS
  l8 : aload Tryz.prog H 49 (.ptr id n i 8) = some .nilS
  l9 : aload Tryz.prog H 26 (.ptr id n i 9) = some p9
  l10 : aload Tryz.prog H 26 (.ptr id n i 10) = some .nilS
  k4 : ShL H lo s.xs p4
  k5 : ShN H lo s.nms.length p5
  k9 : ShB H lo s.bdy p9
  s0 : ∀ x, ∃ H', astore Tryz.prog H 3 (.ptr id n i 0) (pi x) = some H' ∧ Pz lo H H'
  s2 : ∀ x, ∃ H', astore Tryz.prog H 9 (.ptr id n i 2) (ps x) = some H' ∧ Pz lo H H'
theorem ShB.at26 {H : AS} {lo id n i : Nat} {l : List LSt} (h : ShB H lo l (.msl id n 14)) (hi : i < l.length) : ∃ p4 p5 p9, At26 H lo id n i (nth l (i : Int)) p4 p5 p9 := by
  obtain ⟨id', rows, r, e, h1, h2, h3, h4, h5⟩ := h.at' hi
  cases e
  revert h5
  cases nth l (i : Int) with
  | mk o a nm xs ns b =>
    intro h5
    rw [ShS] at h5
    obtain ⟨⟨x0, g0⟩, ⟨x2, g2⟩, ⟨p4, g4, k4⟩, ⟨p5, g5, k5⟩, g6, g8, ⟨p9, g9, k9⟩, g10⟩ := h5
    exact ⟨p4, p5, p9, ld_cell agg42 h2 h3 h4 g4, ld_cell agg43 h2 h3 h4 g5, ld_cell agg42 h2 h3 h4 g6, ld_cell agg49 h2 h3 h4 g8, ld_cell agg26 h2 h3 h4 g9, ld_cell agg26 h2 h3 h4 g10, k4, k5, k9, fun x => st_cell h1 sz_3 h2 h3 h4 g0 rfl rfl, fun x => st_cell h1 sz_9 h2 h3 h4 g2 rfl rfl⟩
theorem LEx.kids_sm {e : LEx} (h : e.sm) : LEx.smL e.kids ∧ e.kids.length < 1099511627776 ∧ e.nms.length < 1099511627776 := by
  cases e; rw [LEx.sm] at h; exact ⟨h.2.2, h.1, h.2.1⟩
theorem LSt.parts_sm {e : LSt} (h : e.sm) : LEx.smL e.xs ∧ e.xs.length < 1099511627776 ∧ e.nms.length < 1099511627776 ∧ LSt.smL e.bdy ∧ e.bdy.length < 1099511627776 := by
  cases e; rw [LSt.sm] at h; exact ⟨h.2.1, h.1, h.2.2.1, h.2.2.2.2, h.2.2.2.1⟩
def SpE (l : List LEx) : Prop := LEx.smL l → l.length < 1099511627776 → ∀ (H : AS) (lo : Nat) (p : PV), ShL H lo l p → ACalls Tryz.prog 70 [p] H fun q H' => q = .tuple [] ∧ Pz lo H H'
theorem spE_of (l : List LEx) (ih : ∀ e ∈ l, SpE e.kids) : SpE l := by
  intro hsm hl H lo p hsh
  refine ACalls_open Tryz.func70 rfl (by kernel_rfl) (by simp) fun hwf hbel => ?_
  have hlen := hsh.len
  repeat' first
    | refine T_seq ?_
    | refine T_rgn ?_
    | refine T_cd ?_
    | refine T_sk ?_
    | refine T_rt ?_
    | refine T_block ?_
    | refine T_ex ?_
    | refine Kt_then ?_
    | refine Kt_block ?_
    | refine Kr_then ?_
    | refine Kr_block ?_
    | refine Ke_here ?_
    | refine Ke_then ?_
    | refine Hid.mk ?_
    | refine Gs.mk (fun g => ?_) (fun g => ?_) <;> (try simp only [nm] at g) <;> try (exfalso; first | contradiction | omega)
    | refine Gr.mk (fun g => ?_) (fun g => ?_) <;> (try simp only [nm] at g) <;> try (exfalso; first | contradiction | omega)
    | (refine Run.of ?_; simp (maxSteps := 1000000) (disch := first | omega | assumption | (simp; done) | fail) [*, lenNilS, idx42m, idx43m, idx26, wrap_nn, wrap_i64, lenOf_msl])
  refine T_lp (fun k F H' => ∃ (i : Nat), k = l.length - i ∧ F 0 = p ∧ F 4 = p ∧ F 5 = pi l.length ∧ F 6 = pi i ∧ i ≤ l.length ∧ Pz lo H H') _ ⟨0, rfl, by simp, by simp, by simp [*], by simp, Nat.zero_le _, .refl _ _⟩ ?_
  rintro k F H1 ⟨i, rfl, g0, g4, g5, g6, hi, hpz⟩
  by_cases hil : i < l.length
  rotate_left
  · repeat' first
      | refine T_seq ?_
      | refine T_rgn ?_
      | refine T_cd ?_
      | refine T_sk ?_
      | refine T_rt ?_
      | refine T_block ?_
      | refine T_ex ?_
      | refine Kt_then ?_
      | refine Kt_block ?_
      | refine Kr_then ?_
      | refine Kr_block ?_
      | refine Kr_loop ?_
      | refine Ke_here ?_
      | refine Ke_then ?_
      | refine Ke_loop ?_
      | refine Ke_block ?_
      | refine Hid.mk ?_
      | refine Gs.mk (fun g => ?_) (fun g => ?_) <;> (try simp only [nm] at g) <;> try (exfalso; first | contradiction | omega)
      | refine Gr.mk (fun g => ?_) (fun g => ?_) <;> (try simp only [nm] at g) <;> try (exfalso; first | contradiction | omega)
      | (refine Run.of ?_; simp (maxSteps := 1000000) (disch := first | omega | assumption | (simp; done) | fail) [*, lenNilS, idx42m, idx43m, idx26, wrap_nn, wrap_i64, lenOf_msl])
    all_goals ((first | refine Kx.mk ?_ | refine Kt.mk ?_); exact owesO_none (by first | exact .inl rfl | exact .inr rfl) rfl ⟨rfl, by assumption⟩)
  have hs1 := ShL.mono hpz l p hsh
  obtain ⟨id, rows, r, rfl, hlo, -⟩ := hs1.at' hil
  obtain ⟨p7, p8, ha⟩ := hs1.at42 hil
  have l7 := ha.l7
  have hks := LEx.kids_sm (LEx.smL_mem hsm (mem_nth hil))
  have hmem := mem_nth hil
  repeat' first
    | refine T_seq ?_
    | refine T_rgn ?_
    | refine T_cd ?_
    | refine T_sk ?_
    | refine T_rt ?_
    | refine T_block ?_
    | refine T_ex ?_
    | refine Kt_then ?_
    | refine Kt_block ?_
    | refine Kr_then ?_
    | refine Kr_block ?_
    | refine Kr_loop ?_
    | refine Ke_here ?_
    | refine Ke_then ?_
    | refine Ke_loop ?_
    | refine Ke_block ?_
    | refine Hid.mk ?_
    | (refine callR (ih (nth l (i : Int)) hmem hks.1 hks.2.1 _ lo p7 ha.k7) ?_; rintro _ H2 ⟨rfl, hz2⟩; have l8 := hz2.load agg43 ha.l8 ha.k8.hd; have k8 := ha.k8.mono hz2; have n8 := k8.len; have hz3 := hpz.trans hz2)
    | refine Gs.mk (fun g => ?_) (fun g => ?_) <;> (try simp only [nm] at g) <;> try (exfalso; first | contradiction | omega)
    | refine Gr.mk (fun g => ?_) (fun g => ?_) <;> (try simp only [nm] at g) <;> try (exfalso; first | contradiction | omega)
    | (refine Run.of ?_; simp (maxSteps := 1000000) (disch := first | omega | assumption | (simp; done) | fail) [*, lenNilS, idx42m, idx43m, idx26, wrap_nn, wrap_i64, lenOf_msl])
  refine T_lp (fun k F H' => ∃ (j : Nat), k = (nth l (i : Int)).nms.length - j ∧ F 0 = .msl id l.length 14 ∧ F 4 = .msl id l.length 14 ∧ F 5 = pi l.length ∧ F 6 = pi i ∧ F 2 = pi i ∧ F 20 = pi (nth l (i : Int)).nms.length ∧ F 21 = pi j ∧ j ≤ (nth l (i : Int)).nms.length ∧ Pz lo H2 H') _ ⟨0, rfl, by simp [*], by simp [*], by simp [*], by simp [*], by simp [*], by simp [*], by simp [*], Nat.zero_le _, .refl _ _⟩ ?_
  rintro k F H4 ⟨j, rfl, g0, g4, g5, g6, g2, g20, g21, hj, hz4⟩
  have l8' := hz4.load agg43 l8 k8.hd
  have k8' := k8.mono hz4
  have hz5 := hz3.trans hz4
  by_cases hjl : j < (nth l (i : Int)).nms.length
  · obtain ⟨id8, rfl, hst⟩ := k8'.st hjl
    obtain ⟨H5, hst5, hz6⟩ := hst ⟨#[33]⟩
    have hz7 := hz4.trans hz6
    repeat' first
      | refine T_seq ?_
      | refine T_rgn ?_
      | refine T_cd ?_
      | refine T_sk ?_
      | refine T_rt ?_
      | refine T_block ?_
      | refine T_ex ?_
      | refine Kt_then ?_
      | refine Kt_block ?_
      | refine Kr_then ?_
      | refine Kr_block ?_
      | refine Kr_loop ?_
      | refine Ke_here ?_
      | refine Ke_then ?_
      | refine Ke_loop ?_
      | refine Ke_block ?_
      | refine Hid.mk ?_
      | refine Gs.mk (fun g => ?_) (fun g => ?_) <;> (try simp only [nm] at g) <;> try (exfalso; first | contradiction | omega)
      | refine Gr.mk (fun g => ?_) (fun g => ?_) <;> (try simp only [nm] at g) <;> try (exfalso; first | contradiction | omega)
      | (refine Run.of ?_; simp (maxSteps := 1000000) (disch := first | omega | assumption | (simp; done) | fail) [*, lenNilS, idx42m, idx43m, idx26, wrap_nn, wrap_i64, lenOf_msl])
    all_goals (refine Kt_loop ⟨_, ?_, j + 1, rfl, ?_⟩ <;> (repeat' apply And.intro) <;> first | omega | assumption | (simp [*]; done) | fail)
  · obtain ⟨q7, q8, ha4⟩ := (ShL.mono hz5 l _ hsh).at42 hil
    obtain ⟨H5, hst5, hz6⟩ := ha4.s0 99
    obtain ⟨r7, r8, ha5⟩ := (ShL.mono (hz5.trans hz6) l _ hsh).at42 hil
    obtain ⟨H6, hst6, hz7⟩ := ha5.s2 ⟨#[33]⟩
    have hz8 := (hz5.trans hz6).trans hz7
    repeat' first
      | refine T_seq ?_
      | refine T_rgn ?_
      | refine T_cd ?_
      | refine T_sk ?_
      | refine T_rt ?_
      | refine T_block ?_
      | refine T_ex ?_
      | refine Kt_then ?_
      | refine Kt_block ?_
      | refine Kr_then ?_
      | refine Kr_block ?_
      | refine Kr_loop ?_
      | refine Ke_here ?_
      | refine Ke_then ?_
      | refine Ke_loop ?_
      | refine Ke_block ?_
      | refine Hid.mk ?_
      | refine Gs.mk (fun g => ?_) (fun g => ?_) <;> (try simp only [nm] at g) <;> try (exfalso; first | contradiction | omega)
      | refine Gr.mk (fun g => ?_) (fun g => ?_) <;> (try simp only [nm] at g) <;> try (exfalso; first | contradiction | omega)
      | (refine Run.of ?_; simp (maxSteps := 1000000) (disch := first | omega | assumption | (simp; done) | fail) [*, lenNilS, idx42m, idx43m, idx26, wrap_nn, wrap_i64, lenOf_msl])
    all_goals (refine Kt_loop ⟨_, ?_, i + 1, rfl, ?_⟩ <;> (repeat' apply And.intro) <;> first | omega | assumption | (simp [*]; done) | fail)
mutual
theorem spE_all : ∀ e : LEx, SpE e.kids
  | .mk _ _ _ _ _ _ _ ks _ => spE_of ks (spE_items ks)
theorem spE_items : ∀ l : List LEx, ∀ e ∈ l, SpE e.kids
  | [] => by simp
  | x :: l => by
    have h1 := spE_all x
    have h2 := spE_items l
    intro e he
    rcases List.mem_cons.1 he with rfl | he
    · exact h1
    · exact h2 e he
end
theorem xSpoilE (l : List LEx) : SpE l := spE_of l (spE_items l)
set_option maxHeartbeats 4000000
theorem idx49n (H : AS) : True := trivial
def SpB (l : List LSt) : Prop := LSt.smL l → l.length < 1099511627776 → ∀ (H : AS) (lo : Nat) (p : PV), ShB H lo l p → ACalls Tryz.prog 24 [p] H fun q H' => q = .tuple [] ∧ Pz lo H H'
theorem spB_of (l : List LSt) (ih : ∀ e ∈ l, SpB e.bdy) (ih0 : l = [] ∨ SpB []) : SpB l := by
  intro hsm hl H lo p hsh
  refine ACalls_open Tryz.func24 rfl (by kernel_rfl) (by simp) fun hwf hbel => ?_
  have hlen := hsh.len
  repeat' first
    | refine T_seq ?_
    | refine T_rgn ?_
    | refine T_cd ?_
    | refine T_sk ?_
    | refine T_rt ?_
    | refine T_block ?_
    | refine T_ex ?_
    | refine Kt_then ?_
    | refine Kt_block ?_
    | refine Kr_then ?_
    | refine Kr_block ?_
    | refine Ke_here ?_
    | refine Ke_then ?_
    | refine Hid.mk ?_
    | refine Gs.mk (fun g => ?_) (fun g => ?_) <;> (try simp only [nm] at g) <;> try (exfalso; first | contradiction | omega)
    | refine Gr.mk (fun g => ?_) (fun g => ?_) <;> (try simp only [nm] at g) <;> try (exfalso; first | contradiction | omega)
    | (refine Run.of ?_; simp (maxSteps := 1000000) (disch := first | omega | assumption | (simp; done) | fail) [*, lenNilS, idx42m, idx43m, idx26, wrap_nn, wrap_i64, lenOf_msl])
  refine T_lp (fun k F H' => ∃ (i : Nat), k = l.length - i ∧ F 0 = p ∧ F 5 = p ∧ F 6 = pi l.length ∧ F 7 = pi i ∧ i ≤ l.length ∧ Pz lo H H') _ ⟨0, rfl, by simp, by simp, by simp [*], by simp, Nat.zero_le _, .refl _ _⟩ ?_
  rintro k F H1 ⟨i, rfl, g0, g5, g6, g7, hi, hpz⟩
  by_cases hil : i < l.length
  rotate_left
  · repeat' first
      | refine T_seq ?_
      | refine T_rgn ?_
      | refine T_cd ?_
      | refine T_sk ?_
      | refine T_rt ?_
      | refine T_block ?_
      | refine T_ex ?_
      | refine Kt_then ?_
      | refine Kt_block ?_
      | refine Kr_then ?_
      | refine Kr_block ?_
      | refine Kr_loop ?_
      | refine Ke_here ?_
      | refine Ke_then ?_
      | refine Ke_loop ?_
      | refine Ke_block ?_
      | refine Hid.mk ?_
      | refine Gs.mk (fun g => ?_) (fun g => ?_) <;> (try simp only [nm] at g) <;> try (exfalso; first | contradiction | omega)
      | refine Gr.mk (fun g => ?_) (fun g => ?_) <;> (try simp only [nm] at g) <;> try (exfalso; first | contradiction | omega)
      | (refine Run.of ?_; simp (maxSteps := 1000000) (disch := first | omega | assumption | (simp; done) | fail) [*, lenNilS, idx42m, idx43m, idx26, wrap_nn, wrap_i64, lenOf_msl])
    all_goals ((first | refine Kx.mk ?_ | refine Kt.mk ?_); exact owesO_none (by first | exact .inl rfl | exact .inr rfl) rfl ⟨rfl, by assumption⟩)
  have hi0 : SpB [] := ih0.resolve_left (fun e => by rw [e] at hil; simp at hil)
  have hs1 := ShB.mono hpz l p hsh
  obtain ⟨id, rows, r, rfl, hlo, -⟩ := hs1.at' hil
  obtain ⟨p4, p5, p9, ha⟩ := hs1.at26 hil
  have l4 := ha.l4
  have hks := LSt.parts_sm (LSt.smL_mem hsm (mem_nth hil))
  have hmem := mem_nth hil
  repeat' first
    | refine T_seq ?_
    | refine T_rgn ?_
    | refine T_cd ?_
    | refine T_sk ?_
    | refine T_rt ?_
    | refine T_block ?_
    | refine T_ex ?_
    | refine Kt_then ?_
    | refine Kt_block ?_
    | refine Kr_then ?_
    | refine Kr_block ?_
    | refine Kr_loop ?_
    | refine Ke_here ?_
    | refine Ke_then ?_
    | refine Ke_loop ?_
    | refine Ke_block ?_
    | refine Hid.mk ?_
    | (refine callR (xSpoilE (nth l (i : Int)).xs hks.1 hks.2.1 _ lo p4 ha.k4) ?_; rintro _ H2 ⟨rfl, hz2⟩; have l6 := hz2.load agg42 ha.l6 hd_nilS)
    | (refine callR (xSpoilE [] trivial (by simp) _ lo .nilS (by rw [ShL])) ?_; rintro _ H3 ⟨rfl, hz3⟩; have hz23 := hz2.trans hz3; have l9 := hz23.load agg26 ha.l9 ha.k9.hd; have k9 := ShB.mono hz23 _ _ ha.k9)
    | (refine callR (ih (nth l (i : Int)) hmem hks.2.2.2.1 hks.2.2.2.2 _ lo p9 k9) ?_; rintro _ H4 ⟨rfl, hz4⟩; have hz24 := hz23.trans hz4; have l10 := hz24.load agg26 ha.l10 hd_nilS)
    | (refine callR (hi0 trivial (by simp) _ lo .nilS (by rw [ShB])) ?_; rintro _ H5 ⟨rfl, hz5⟩; have hz25 := hz24.trans hz5; have l5 := hz25.load agg43 ha.l5 ha.k5.hd; have k5 := ha.k5.mono hz25; have n5 := k5.len; have l8 := hz25.load agg49 ha.l8 hd_nilS; have hz15 := hpz.trans hz25)
    | refine Gs.mk (fun g => ?_) (fun g => ?_) <;> (try simp only [nm] at g) <;> try (exfalso; first | contradiction | omega)
    | refine Gr.mk (fun g => ?_) (fun g => ?_) <;> (try simp only [nm] at g) <;> try (exfalso; first | contradiction | omega)
    | (refine Run.of ?_; simp (maxSteps := 1000000) (disch := first | omega | assumption | (simp; done) | fail) [*, lenNilS, idx42m, idx43m, idx26, wrap_nn, wrap_i64, lenOf_msl])
  refine T_lp (fun k F H' => ∃ (j : Nat), k = (nth l (i : Int)).nms.length - j ∧ F 0 = .msl id l.length 14 ∧ F 5 = .msl id l.length 14 ∧ F 6 = pi l.length ∧ F 7 = pi i ∧ F 2 = pi i ∧ F 39 = pi (nth l (i : Int)).nms.length ∧ F 40 = pi j ∧ j ≤ (nth l (i : Int)).nms.length ∧ Pz lo H5 H') _ ⟨0, rfl, by simp [*], by simp [*], by simp [*], by simp [*], by simp [*], by simp [*], by simp [*], Nat.zero_le _, .refl _ _⟩ ?_
  rintro k F H6 ⟨j, rfl, g0, g5, g6, g7, g2, g39, g40, hj, hz6⟩
  have l5' := hz6.load agg43 l5 k5.hd
  have k5' := k5.mono hz6
  have l8' := hz6.load agg49 l8 hd_nilS
  have hz16 := hz15.trans hz6
  by_cases hjl : j < (nth l (i : Int)).nms.length
  · obtain ⟨id8, rfl, hst⟩ := k5'.st hjl
    obtain ⟨H7, hst5, hz7⟩ := hst ⟨#[33]⟩
    have hz67 := hz6.trans hz7
    repeat' first
      | refine T_seq ?_
      | refine T_rgn ?_
      | refine T_cd ?_
      | refine T_sk ?_
      | refine T_rt ?_
      | refine T_block ?_
      | refine T_ex ?_
      | refine Kt_then ?_
      | refine Kt_block ?_
      | refine Kr_then ?_
      | refine Kr_block ?_
      | refine Kr_loop ?_
      | refine Ke_here ?_
      | refine Ke_then ?_
      | refine Ke_loop ?_
      | refine Ke_block ?_
      | refine Hid.mk ?_
      | refine Gs.mk (fun g => ?_) (fun g => ?_) <;> (try simp only [nm] at g) <;> try (exfalso; first | contradiction | omega)
      | refine Gr.mk (fun g => ?_) (fun g => ?_) <;> (try simp only [nm] at g) <;> try (exfalso; first | contradiction | omega)
      | (refine Run.of ?_; simp (maxSteps := 1000000) (disch := first | omega | assumption | (simp; done) | fail) [*, lenNilS, idx42m, idx43m, idx26, wrap_nn, wrap_i64, lenOf_msl])
    all_goals (refine Kt_loop ⟨_, ?_, j + 1, rfl, ?_⟩ <;> (repeat' apply And.intro) <;> first | omega | assumption | (simp [*]; done) | fail)
  · obtain ⟨q4, q5, q9, ha4⟩ := (ShB.mono hz16 l _ hsh).at26 hil
    obtain ⟨H7, hst5, hz7⟩ := ha4.s0 99
    obtain ⟨r4, r5, r9, ha5⟩ := (ShB.mono (hz16.trans hz7) l _ hsh).at26 hil
    obtain ⟨H8, hst6, hz8⟩ := ha5.s2 ⟨#[33]⟩
    have hz18 := (hz16.trans hz7).trans hz8
    repeat' first
      | refine T_seq ?_
      | refine T_rgn ?_
      | refine T_cd ?_
      | refine T_sk ?_
      | refine T_rt ?_
      | refine T_block ?_
      | refine T_ex ?_
      | refine Kt_then ?_
      | refine Kt_block ?_
      | refine Kr_then ?_
      | refine Kr_block ?_
      | refine Kr_loop ?_
      | refine Ke_here ?_
      | refine Ke_then ?_
      | refine Ke_loop ?_
      | refine Ke_block ?_
      | refine Hid.mk ?_
      | refine Gs.mk (fun g => ?_) (fun g => ?_) <;> (try simp only [nm] at g) <;> try (exfalso; first | contradiction | omega)
      | refine Gr.mk (fun g => ?_) (fun g => ?_) <;> (try simp only [nm] at g) <;> try (exfalso; first | contradiction | omega)
      | (refine Run.of ?_; simp (maxSteps := 1000000) (disch := first | omega | assumption | (simp; done) | fail) [*, lenNilS, idx42m, idx43m, idx26, wrap_nn, wrap_i64, lenOf_msl])
    refine T_lp (fun k F H' => k = 0 ∧ F 0 = .msl id l.length 14 ∧ F 5 = .msl id l.length 14 ∧ F 6 = pi l.length ∧ F 7 = pi i ∧ F 2 = pi i ∧ F 56 = pi 0 ∧ F 57 = pi 0 ∧ H' = H6) 0 ⟨rfl, by simp [*], by simp [*], by simp [*], by simp [*], by simp [*], by simp [*], by simp [*], rfl⟩ ?_
    rintro k F H9 ⟨rfl, g0, g5, g6, g7, g2, g56, g57, rfl⟩
    repeat' first
      | refine T_seq ?_
      | refine T_rgn ?_
      | refine T_cd ?_
      | refine T_sk ?_
      | refine T_rt ?_
      | refine T_block ?_
      | refine T_ex ?_
      | refine Kt_then ?_
      | refine Kt_block ?_
      | refine Kr_then ?_
      | refine Kr_block ?_
      | refine Kr_loop ?_
      | refine Ke_here ?_
      | refine Ke_then ?_
      | refine Ke_loop ?_
      | refine Ke_block ?_
      | refine Hid.mk ?_
      | refine Gs.mk (fun g => ?_) (fun g => ?_) <;> (try simp only [nm] at g) <;> try (exfalso; first | contradiction | omega)
      | refine Gr.mk (fun g => ?_) (fun g => ?_) <;> (try simp only [nm] at g) <;> try (exfalso; first | contradiction | omega)
      | (refine Run.of ?_; simp (maxSteps := 1000000) (disch := first | omega | assumption | (simp; done) | fail) [*, lenNilS, idx42m, idx43m, idx26, wrap_nn, wrap_i64, lenOf_msl])
    all_goals (refine Kt_loop ⟨_, ?_, i + 1, rfl, ?_⟩ <;> (repeat' apply And.intro) <;> first | omega | assumption | (simp [*]; done) | fail)
theorem spB_nil : SpB [] := spB_of [] (by simp) (.inl rfl)
mutual
theorem spB_body : ∀ e : LSt, SpB e.bdy
  | .mk _ _ _ _ _ b => spB_of b (spB_items b) (.inr spB_nil)
theorem spB_items : ∀ l : List LSt, ∀ e ∈ l, SpB e.bdy
  | [] => by simp
  | x :: l => by
    have h1 := spB_body x
    have h2 := spB_items l
    intro e he
    rcases List.mem_cons.1 he with rfl | he
    · exact h1
    · exact h2 e he
end
theorem xSpoil (l : List LSt) : SpB l := spB_of l (spB_items l) (.inr spB_nil)
end
theorem thok_pi {c : Nat} (n : Int) : ThOk c (pi n) := .val fun a l k e => by cases e
theorem thok_ps {c : Nat} (s : ByteArray) : ThOk c (ps s) := .val fun a l k e => by cases e
theorem thok_k8 {c : Nat} (n : Int) : ThOk c (k8 n) := .val fun a l k e => by cases e
theorem thok_k64 {c : Nat} (n : Int) : ThOk c (k64 n) := .val fun a l k e => by cases e
theorem thok_sl {c sz : Nat} {rows : List (List PV)} (h0 : 0 < sz) (h : ∀ r ∈ rows, ∀ p ∈ r, ThOk c p) : ThOk c (PV.sl c sz rows) := by
  cases rows with
  | nil => exact .nil
  | cons a l => exact .list (by simp) h0 h
theorem thok_names {c : Nat} (l : List ByteArray) : ThOk c (PV.sl c 1 (l.map nRow)) := thok_sl (by decide) fun r hr p hp => by
  obtain ⟨b, _, rfl⟩ := List.mem_map.1 hr
  simp [nRow] at hp; subst hp; exact thok_ps _
mutual
theorem thokE (c : Nat) : ∀ e : LEx, ∀ p ∈ e.row c, ThOk c p
  | .mk o a nm f vk vb vt k ns => by
    have h := thokR c k
    rw [LEx.row]
    intro p hp
    simp only [List.mem_cons, List.not_mem_nil, or_false] at hp
    rcases hp with rfl | rfl | rfl | rfl | rfl | rfl | rfl | rfl | rfl | rfl | rfl | rfl | rfl | rfl
    all_goals first | exact thok_pi _ | exact thok_ps _ | exact thok_k8 _ | exact thok_k64 _ | exact thok_sl (by decide) h | exact thok_names _
theorem thokR (c : Nat) : ∀ l : List LEx, ∀ r ∈ LEx.rowsK c l, ∀ p ∈ r, ThOk c p
  | [] => by simp [LEx.rowsK]
  | e :: es => by
    have h1 := thokE c e
    have h2 := thokR c es
    rw [LEx.rowsK]
    intro r hr p hp
    rcases List.mem_cons.1 hr with rfl | hr
    · exact h1 p hp
    · exact h2 r hr p hp
end
mutual
theorem thokS (c : Nat) : ∀ e : LSt, ∀ p ∈ e.row c, ThOk c p
  | .mk o a nm x ns b => by
    have h := thokT c b
    rw [LSt.row]
    intro p hp
    simp only [List.mem_cons, List.not_mem_nil, or_false] at hp
    rcases hp with rfl | rfl | rfl | rfl | rfl | rfl | rfl | rfl | rfl | rfl | rfl | rfl | rfl | rfl
    all_goals first | exact thok_pi _ | exact thok_ps _ | exact thok_k8 _ | exact .nil | exact thok_sl (by decide) h | exact thok_names _ | exact thok_sl (by decide) (by rw [← LEx.rowsK_eq]; exact thokR c x)
theorem thokT (c : Nat) : ∀ l : List LSt, ∀ r ∈ LSt.rowsB c l, ∀ p ∈ r, ThOk c p
  | [] => by simp [LSt.rowsB]
  | e :: es => by
    have h1 := thokS c e
    have h2 := thokT c es
    rw [LSt.rowsB]
    intro r hr p hp
    rcases List.mem_cons.1 hr with rfl | hr
    · exact h1 p hp
    · exact h2 r hr p hp
end
theorem thok_stmts (c : Nat) (l : List LSt) : ThOk c (PV.sl c 14 (l.map (LSt.row c))) := thok_sl (by decide) (by rw [← LSt.rowsB_eq]; exact thokT c l)
section
variable {c lo : Nat} {H : AS}
theorem th_val {v : Value} {p : PV} (h : Th c lo H (.val v) p) : p = .val v := by cases h; rfl
theorem th_nil {p : PV} (h : Th c lo H .nilS p) : p = .nilS := by
  cases h with
  | nil => rfl
  | list h => exact absurd rfl h
theorem th_sl {sz : Nat} {r : List PV} {rs : List (List PV)} {p : PV} (h : Th c lo H (PV.sl c sz (r :: rs)) p) : ∃ id r' rs', p = .msl id (rs.length + 1) sz ∧ lo ≤ id ∧ id < H.next ∧ H.box id = some (r' :: rs') ∧ rs'.length = rs.length ∧
    (∀ (i : Nat) (a b : List PV), (r :: rs)[i]? = some a → (r' :: rs')[i]? = some b → b.length = a.length ∧ a.length = sz) ∧ ∀ (i : Nat) (a b : List PV) (j : Nat) (x y : PV), (r :: rs)[i]? = some a → (r' :: rs')[i]? = some b → a[j]? = some x → b[j]? = some y → Th c lo H x y := by
  cases h with
  | list hne h1 h2 h3 h4 h5 h6 =>
    rename_i id rows'
    cases rows' with
    | nil => simp at h4
    | cons r' rs' => exact ⟨id, r', rs', rfl, h1, h2, h3, by simpa using h4, h5, h6⟩
/-- One row's cells. -/
def ThR (c lo : Nat) (H : AS) (r r' : List PV) : Prop := r'.length = r.length ∧ ∀ (j : Nat) (x y : PV), r[j]? = some x → r'[j]? = some y → Th c lo H x y
theorem ThR.at' {r r' : List PV} {j : Nat} {x : PV} (h : ThR c lo H r r') (hx : r[j]? = some x) : ∃ y, r'[j]? = some y ∧ Th c lo H x y := by
  obtain ⟨y, hy⟩ := get_of_lt (l := r') (i := j) (by rw [h.1]; exact (List.getElem?_eq_some_iff.1 hx).1)
  exact ⟨y, hy, h.2 j x y hx hy⟩
theorem ThR.val {r r' : List PV} {j : Nat} {x : Value} (h : ThR c lo H r r') (hx : r[j]? = some (.val x)) : ∃ x, r'[j]? = some (.val x) := by
  obtain ⟨y, hy, ht⟩ := h.at' hx
  rw [th_val ht] at hy; exact ⟨_, hy⟩
theorem ThR.nil {r r' : List PV} {j : Nat} (h : ThR c lo H r r') (hx : r[j]? = some .nilS) : r'[j]? = some .nilS := by
  obtain ⟨y, hy, ht⟩ := h.at' hx
  rw [th_nil ht] at hy; exact hy
theorem sh_names {l : List ByteArray} {p : PV} (h : Th c lo H (PV.sl c 1 (l.map nRow)) p) : ShN H lo l.length p := by
  cases l with
  | nil => exact .inl ⟨rfl, th_nil h⟩
  | cons a l =>
    obtain ⟨id, r', rs', rfl, h1, h2, h3, h4, h5, h6⟩ := th_sl h
    refine .inr ⟨by simp, id, r' :: rs', by simp, h1, h3, by simpa using h4, fun i r hr => ?_⟩
    have hi : i < (nRow a :: l.map nRow).length := by have := (List.getElem?_eq_some_iff.1 hr).1; simp at this ⊢; simp at h4; omega
    obtain ⟨q, hq⟩ := get_of_lt hi
    obtain ⟨b, hb⟩ : ∃ b, q = nRow b := by
      have := List.mem_of_getElem? hq
      rw [← List.map_cons] at this
      obtain ⟨b, _, rfl⟩ := List.mem_map.1 this; exact ⟨b, rfl⟩
    subst hb
    exact ThR.val (x := .string b) ⟨(h5 i _ r hq hr).1, fun j x y e1 e2 => h6 i _ r j x y hq hr e1 e2⟩ rfl
/-- Rows beside rows. -/
def ThRs (c lo : Nat) (H : AS) (rs rs' : List (List PV)) : Prop := rs'.length = rs.length ∧ ∀ (i : Nat) (a b : List PV), rs[i]? = some a → rs'[i]? = some b → ThR c lo H a b
theorem ThRs.cons {r : List PV} {rs rs' : List (List PV)} (h : ThRs c lo H (r :: rs) rs') : ∃ r' rs2, rs' = r' :: rs2 ∧ ThR c lo H r r' ∧ ThRs c lo H rs rs2 := by
  cases rs' with
  | nil => have := h.1; simp at this
  | cons r' rs2 => exact ⟨r', rs2, rfl, h.2 0 _ _ rfl rfl, by simpa using h.1, fun i a b e1 e2 => h.2 (i + 1) a b (by simpa using e1) (by simpa using e2)⟩
theorem th_rows {sz : Nat} {r : List PV} {rs : List (List PV)} {p : PV} (h : Th c lo H (PV.sl c sz (r :: rs)) p) : ∃ id r' rs', p = .msl id (rs.length + 1) sz ∧ lo ≤ id ∧ H.box id = some (r' :: rs') ∧ ThR c lo H r r' ∧ ThRs c lo H rs rs' := by
  obtain ⟨id, r', rs', rfl, h1, h2, h3, h4, h5, h6⟩ := th_sl h
  exact ⟨id, r', rs', rfl, h1, h3, ⟨(h5 0 _ _ rfl rfl).1, fun j x y e1 e2 => h6 0 _ _ j x y rfl rfl e1 e2⟩, h4, fun i a b e1 e2 => ⟨(h5 (i + 1) a b (by simpa using e1) (by simpa using e2)).1, fun j x y e3 e4 => h6 (i + 1) a b j x y (by simpa using e1) (by simpa using e2) e3 e4⟩⟩
mutual
theorem shE_th : ∀ (e : LEx) (r' : List PV), ThR c lo H (e.row c) r' → ShE H lo e r'
  | .mk o a nm f vk vb vt k ns, r', h => by
    rw [LEx.row_mk] at h
    obtain ⟨p7, g7, t7⟩ := h.at' (j := 7) rfl
    obtain ⟨p8, g8, t8⟩ := h.at' (j := 8) rfl
    rw [ShE]
    exact ⟨h.val (j := 0) rfl, h.val (j := 2) rfl, ⟨p7, g7, shL_th k p7 t7⟩, p8, g8, sh_names t8⟩
theorem shL_th : ∀ (l : List LEx) (p : PV), Th c lo H (PV.sl c 14 (l.map (LEx.row c))) p → ShL H lo l p
  | [], p, h => by rw [ShL]; exact th_nil h
  | k :: ks, p, h => by
    rw [List.map_cons] at h
    obtain ⟨id, r', rs', rfl, h1, h3, h4, h5⟩ := th_rows h
    rw [ShL]
    exact ⟨id, r', rs', by simp, h1, h3, shE_th k r' h4, shR_th ks rs' h5⟩
theorem shR_th : ∀ (l : List LEx) (rs' : List (List PV)), ThRs c lo H (l.map (LEx.row c)) rs' → ShR H lo l rs'
  | [], rs', h => by rw [ShR]; exact List.length_eq_zero_iff.1 h.1
  | k :: ks, rs', h => by
    rw [List.map_cons] at h
    obtain ⟨r', rs2, rfl, h4, h5⟩ := h.cons
    rw [ShR]
    exact ⟨r', rs2, rfl, shE_th k r' h4, shR_th ks rs2 h5⟩
end
mutual
theorem shS_th : ∀ (e : LSt) (r' : List PV), ThR c lo H (e.row c) r' → ShS H lo e r'
  | .mk o a nm x ns b, r', h => by
    rw [LSt.row_mk] at h
    obtain ⟨p4, g4, t4⟩ := h.at' (j := 4) rfl
    obtain ⟨p5, g5, t5⟩ := h.at' (j := 5) rfl
    obtain ⟨p9, g9, t9⟩ := h.at' (j := 9) rfl
    rw [ShS]
    exact ⟨h.val (j := 0) rfl, h.val (j := 2) rfl, ⟨p4, g4, shL_th x p4 t4⟩, ⟨p5, g5, sh_names t5⟩, h.nil (j := 6) rfl, h.nil (j := 8) rfl, ⟨p9, g9, shB_th b p9 t9⟩, h.nil (j := 10) rfl⟩
theorem shB_th : ∀ (l : List LSt) (p : PV), Th c lo H (PV.sl c 14 (l.map (LSt.row c))) p → ShB H lo l p
  | [], p, h => by rw [ShB]; exact th_nil h
  | k :: ks, p, h => by
    rw [List.map_cons] at h
    obtain ⟨id, r', rs', rfl, h1, h3, h4, h5⟩ := th_rows h
    rw [ShB]
    exact ⟨id, r', rs', by simp, h1, h3, shS_th k r' h4, shT_th ks rs' h5⟩
theorem shT_th : ∀ (l : List LSt) (rs' : List (List PV)), ThRs c lo H (l.map (LSt.row c)) rs' → ShT H lo l rs'
  | [], rs', h => by rw [ShT]; exact List.length_eq_zero_iff.1 h.1
  | k :: ks, rs', h => by
    rw [List.map_cons] at h
    obtain ⟨r', rs2, rfl, h4, h5⟩ := h.cons
    rw [ShT]
    exact ⟨r', rs2, rfl, shS_th k r' h4, shT_th ks rs2 h5⟩
end
end
theorem noc_sl {c sz : Nat} {rows : List (List PV)} (hc : c < 2) (h : ∀ r ∈ rows, ∀ p ∈ r, NoC p) : NoC (PV.sl c sz rows) := by
  cases rows with
  | nil => exact .slice (by decide) (by simp)
  | cons a l => exact .slice hc h
theorem noc_names {c : Nat} (hc : c < 2) (l : List ByteArray) : NoC (PV.sl c 1 (l.map nRow)) := noc_sl hc fun r hr p hp => by
  obtain ⟨b, _, rfl⟩ := List.mem_map.1 hr
  simp [nRow] at hp; subst hp; exact .val _
mutual
theorem nocE {c : Nat} (hc : c < 2) : ∀ e : LEx, ∀ p ∈ e.row c, NoC p
  | .mk o a nm f vk vb vt k ns => by
    have h := nocR hc k
    rw [LEx.row]
    intro p hp
    simp only [List.mem_cons, List.not_mem_nil, or_false] at hp
    rcases hp with rfl | rfl | rfl | rfl | rfl | rfl | rfl | rfl | rfl | rfl | rfl | rfl | rfl | rfl
    all_goals first | exact .val _ | exact noc_sl hc h | exact noc_names hc _
theorem nocR {c : Nat} (hc : c < 2) : ∀ l : List LEx, ∀ r ∈ LEx.rowsK c l, ∀ p ∈ r, NoC p
  | [] => by simp [LEx.rowsK]
  | e :: es => by
    have h1 := nocE hc e
    have h2 := nocR hc es
    rw [LEx.rowsK]
    intro r hr p hp
    rcases List.mem_cons.1 hr with rfl | hr
    · exact h1 p hp
    · exact h2 r hr p hp
end
mutual
theorem nocS {c : Nat} (hc : c < 2) : ∀ e : LSt, ∀ p ∈ e.row c, NoC p
  | .mk o a nm x ns b => by
    have h := nocT hc b
    rw [LSt.row]
    intro p hp
    simp only [List.mem_cons, List.not_mem_nil, or_false] at hp
    rcases hp with rfl | rfl | rfl | rfl | rfl | rfl | rfl | rfl | rfl | rfl | rfl | rfl | rfl | rfl
    all_goals first | exact .val _ | exact noc_sl hc (fun r h => by cases h) | exact noc_sl hc h | exact noc_names hc _ | exact noc_sl hc (by rw [← LEx.rowsK_eq]; exact nocR hc x)
theorem nocT {c : Nat} (hc : c < 2) : ∀ l : List LSt, ∀ r ∈ LSt.rowsB c l, ∀ p ∈ r, NoC p
  | [] => by simp [LSt.rowsB]
  | e :: es => by
    have h1 := nocS hc e
    have h2 := nocT hc es
    rw [LSt.rowsB]
    intro r hr p hp
    rcases List.mem_cons.1 hr with rfl | hr
    · exact h1 p hp
    · exact h2 r hr p hp
end
theorem noc_stmts {c : Nat} (hc : c < 2) (l : List LSt) : NoC (PV.sl c 14 (l.map (LSt.row c))) := noc_sl hc (by rw [← LSt.rowsB_eq]; exact nocT hc l)
mutual
theorem nocL {c : Nat} (hc : c < 2) : ∀ e : LEl, ∀ p ∈ e.row c, NoC p
  | .mk o a nm b => by
    have h := nocLB hc b
    rw [LEl.row]
    intro p hp
    simp only [List.mem_cons, List.not_mem_nil, or_false] at hp
    rcases hp with rfl | rfl | rfl | rfl
    all_goals first | exact .val _ | exact noc_sl hc h
theorem nocLB {c : Nat} (hc : c < 2) : ∀ l : List (List LEl), ∀ r ∈ LEl.rowsB c l, ∀ p ∈ r, NoC p
  | [] => by simp [LEl.rowsB]
  | b :: bs => by
    have h1 := nocLE hc b
    have h2 := nocLB hc bs
    rw [LEl.rowsB]
    intro r hr p hp
    rcases List.mem_cons.1 hr with rfl | hr
    · rw [List.mem_singleton] at hp; subst hp; exact noc_sl hc h1
    · exact h2 r hr p hp
theorem nocLE {c : Nat} (hc : c < 2) : ∀ l : List LEl, ∀ r ∈ LEl.rowsE c l, ∀ p ∈ r, NoC p
  | [] => by simp [LEl.rowsE]
  | e :: es => by
    have h1 := nocL hc e
    have h2 := nocLE hc es
    rw [LEl.rowsE]
    intro r hr p hp
    rcases List.mem_cons.1 hr with rfl | hr
    · exact h1 p hp
    · exact h2 r hr p hp
end
theorem noc_rungs {c : Nat} (hc : c < 2) (l : List LRg) : NoC (PV.sl c 3 (l.map (LRg.row c))) := noc_sl hc fun r hr p hp => by
  obtain ⟨g, _, rfl⟩ := List.mem_map.1 hr
  simp only [LRg.row, List.mem_cons, List.not_mem_nil, or_false] at hp
  rcases hp with rfl | rfl | rfl
  · exact .val _
  · exact noc_sl hc (by rw [← LEl.rowsE_eq]; exact nocLE hc _)
  · exact noc_sl hc (by rw [← LEl.rowsE_eq]; exact nocLE hc _)
section
set_option maxHeartbeats 4000000
attribute [local simp ↓] wanted_at hbind_some
attribute [local simp] Gs_true Gs_false gcond_Gr Gr_true Gr_false abox frame0 int_beq int_bne aload astore partOf Keeps Same splice aUn aFieldAddr aField aBin aBinV aConvert aExtract aLen aBuild aBuild.go aalloc AS.Ext.refl AS.Ext.bump AS.Ext.setBox
theorem ladV_length' (l : List LRg) : (ladV 0 0 l).length = 2 * ladE l + l.length := by rw [ladV_length]
theorem lawLadders (H : AS) (s : ByteArray) (hcol : H.color = 1) (hbox : ∀ id, H.box id = none) (hmp : ∀ id, H.mp id = none) (G : Gh) (w : World) (vs : List Value) (hG : G.NoCol 2) (hr : Rel G H w) (hall : RepAll G [ps s] vs) :
    Calls Tryz.prog 5 vs.toArray w fun e w' => ∃ v G' q H', e = .returned v ∧ G.le G' ∧ Rel G' H' w' ∧ Rep G' q v ∧ (q = pb true ∧ H' = H) := by
  refine calls0_intro (args := [ps s]) (H := H) (k := fun q H' => q = pb true ∧ H' = H) 2 Tryz.func5 rfl (by simp) (fun hwf hbel => ?_) G w vs hG hr hall
  clear hall hr hG
  have hp1 : H.paint 1 = H := paint_same hcol
  repeat' first
    | refine T_seq ?_
    | refine T_rgn ?_
    | refine T_cd ?_
    | refine T_sk ?_
    | refine T_rt ?_
    | refine T_block ?_
    | refine T_ex ?_
    | refine Kt_then ?_
    | refine Kt_block ?_
    | refine Kr_then ?_
    | refine Kr_block ?_
    | refine Ke_here ?_
    | refine Ke_then ?_
    | refine Hid.mk ?_
    | refine T0.seqC (id := 3) 2 ?_
    | refine T0.seqC (id := 4) 1 ?_
    | refine T0.stop (id := 8) ?_
    | refine T0.seqA ?_
    | refine Kt_then0 ?_
    | refine Kr_then0 ?_
    | (refine callR (rLadder _ _ (by simp [*])) ?_; rintro _ Hz ⟨⟨l, la, le, rfl, hgd, hsz⟩, hz⟩; have hll := rgS_length l; have hle := lad_le l; have hSl := ladS_length 0 0 l; have hVl := ladV_length 0 0 l; subst Hz)
    | (refine callR (xRungs _ 1 l (by omega)) ?_; rintro _ Hz ⟨rfl, hz⟩; subst Hz)
    | (refine callR (xLadder _ 1 l (by decide) hgd (by omega)) ?_; rintro _ Hz ⟨rfl, hz⟩; subst Hz)
    | (refine callR (yLadder _ 1 l (by simp [*]) hgd (by omega)) ?_; rintro _ Hz ⟨rfl, hz⟩; subst Hz)
    | (refine callR (xSameStmts (ladS 0 0 l) (sm_lad _ _ _) (by omega) _ 2 1) ?_; rintro _ Hz ⟨rfl, hz⟩; subst Hz)
    | (refine callR (xSameVars _ 2 1 (ladV 0 0 l) (by omega)) ?_; rintro _ Hz ⟨rfl, hz⟩; subst Hz)
    | (refine callR (xSameRungs _ 1 1 l (by omega)) ?_; rintro _ Hz ⟨rfl, hz⟩; subst Hz)
    | refine Gs.mk (fun g => ?_) (fun g => ?_) <;> (try simp only [nm] at g) <;> try (exfalso; first | contradiction | omega)
    | refine Gr.mk (fun g => ?_) (fun g => ?_) <;> (try simp only [nm] at g) <;> try (exfalso; first | contradiction | omega)
    | (refine Run.of ?_; simp (maxSteps := 1000000) (disch := first | omega | assumption | (simp; done) | fail) [*, box_sb, lenNilS, idx55, idx60, wrap_i64, nil29, paint_color, paint_paint])
  refine T0s.thawL (p := PV.sl 2 14 ((ladS 0 0 l).map (LSt.row 2))) 1 7 [3, 6, 10, 12] (by simp) (thok_stmts 2 _) hbox ?_ ?_
  · intro t ht
    simp only [List.mem_cons, List.not_mem_nil, or_false] at ht
    rcases ht with rfl | rfl | rfl | rfl
    all_goals simp
    all_goals first | exact noc_rungs (by decide) _ | exact noc_stmts (by decide) _
  intro H1 p hn hb hm hc1 hth
  have hsh := shB_th _ _ hth
  generalize hF : keepF _ _ _ _ = F1
  have k7 : F1 7 = p := by rw [← hF]; simp [keepF]
  have k3 : F1 3 = PV.sl 1 3 (l.map (LRg.row 1)) := by rw [← hF]; simp [keepF]
  have k6 : F1 6 = PV.sl 1 3 (l.map (LRg.row 1)) := by rw [← hF]; simp [keepF]
  have k10 : F1 10 = PV.sl 1 14 ((ladS 0 0 l).map (LSt.row 1)) := by rw [← hF]; simp [keepF]
  have k12 : F1 12 = PV.sl 1 14 ((ladS 0 0 l).map (LSt.row 1)) := by rw [← hF]; simp [keepF]
  clear hF
  repeat' first
    | refine T_seq ?_
    | refine T_rgn ?_
    | refine T_cd ?_
    | refine T_sk ?_
    | refine T_rt ?_
    | refine T_block ?_
    | refine T_ex ?_
    | refine Kt_then ?_
    | refine Kt_block ?_
    | refine Kr_then ?_
    | refine Kr_block ?_
    | refine Ke_here ?_
    | refine Ke_then ?_
    | refine Hid.mk ?_
    | (refine callR (xSpoil (ladS 0 0 l) (sm_lad _ _ _) (by omega) _ H.next p hsh) ?_; rintro _ H2 ⟨rfl, hz2⟩; have hext : H.Ext H2 := ⟨by rw [hz2.next]; exact hn, fun id hi => by rw [hz2.old id hi, hb id hi, hbox id], fun id hi => by rw [hz2.mp id, hm id, hmp id], by rw [hz2.color, hc1, hcol]⟩)
    | (refine callR (xSameStmts (ladS 0 0 l) (sm_lad _ _ _) (by omega) _ 1 1) ?_; rintro _ Hz ⟨rfl, hz⟩; subst Hz)
    | (refine callR (xSameRungs _ 1 1 l (by omega)) ?_; rintro _ Hz ⟨rfl, hz⟩; subst Hz)
    | refine Gs.mk (fun g => ?_) (fun g => ?_) <;> (try simp only [nm] at g) <;> try (exfalso; first | contradiction | omega)
    | refine Gr.mk (fun g => ?_) (fun g => ?_) <;> (try simp only [nm] at g) <;> try (exfalso; first | contradiction | omega)
    | (refine Run.of ?_; simp (maxSteps := 1000000) (disch := first | omega | assumption | (simp; done) | fail) [*, box_sb, lenNilS, idx55, idx60, wrap_i64, nil29, paint_color, paint_paint])
  all_goals (refine Kx.mk ?_; refine owes_one (.inr rfl) hwf rfl (by simp [*]) hext ?_ ?_ <;> (first | (constructor <;> simp [Frozen]) | exact .val _))
end
end Go.Abs
