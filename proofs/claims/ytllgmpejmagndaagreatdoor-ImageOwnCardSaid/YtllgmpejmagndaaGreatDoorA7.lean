/- Texts of ours, merged: the abstract layer, the walks over the loaded functions, the plain laws. -/
import Derived.Test.YtllgmpejmagndaaGreatDoorA6
import Derived.Test.YtllgmpejmagndaaGreatDoorA5
import Derived.Test.YtllgmpejmagndaaGreatDoorA2
import Derived.Lib.LaidTab
import Derived.OpenShut
import Derived.MakeChecks
import Derived.Test.YtllgmpejmagndaaGreatDoorRows
import Derived.Test.YtllgmpejmagndaaGreatDoorTie
import Derived.Test.YtllgmpejmagndaaGreatDoorCards
import Derived.ProofKit
import Derived.LaidMore
import Derived.Stop.Joined
namespace Go.Abs
open Go.Proofs
set_option autoImplicit false
set_option linter.all false
set_option maxRecDepth 100000
set_option maxHeartbeats 40000000
section
attribute [local simp ↓] wanted_at hbind_some
attribute [local simp] Gs_true Gs_false gcond_Gr Gr_true Gr_false abox frame0 int_beq int_bne aload astore partOf Keeps Same splice aUn aFieldAddr aField aBin aBinV aConvert aExtract aLen aBuild aBuild.go aalloc AS.Ext.refl AS.Ext.bump AS.Ext.setBox
structure Y (Hs : AS) (j n lo hi bm bx by_ c : Nat) (m : DImage) (p1 p2 p3 : PV) (H : AS) : Prop where
 ext : Hs.Ext H
 hs : Hs.next ≤ bm ∧ bm < lo ∧ lo ≤ hi
 hj : Hs.next ≤ j ∧ j < lo ∧ j ≠ bm
 hb : hi ≤ bx ∧ bx < by_ ∧ by_ < H.next
 bm : H.box bm = some [m.row c]
 bx : H.box bx = some [[ps m.name, p1, p2, p3]]
 by' : H.box by_ = some [m.row 1]
 bytes : ∃ rows, H.box j = some rows ∧ rows.length = n ∧ ∀ r ∈ rows, ∃ b : Int, r = [.val (.int .u8 b)]
 img : ImgAt lo hi H [ps m.name, p1, p2, p3] m
section
variable {Hs H H' : AS} {j n lo hi bm bx by_ c k : Nat} {m : DImage} {p1 p2 p3 : PV}
theorem Y.write {rows : List (List PV)} {i : Nat} {b : Int} (h : Y Hs j n lo hi bm bx by_ c m p1 p2 p3 H) (hb : H.box j = some rows) (hl : rows.length = n) (hr : ∀ r ∈ rows, ∃ b : Int, r = [.val (.int .u8 b)]) : Y Hs j n lo hi bm bx by_ c m p1 p2 p3 (H.setBox j (rows.set i [.val (.int .u8 b)])) := by
 have a := h.hs
 have a2 := h.hj
 have a3 := h.hb
 refine ⟨.setBox (by omega) h.ext, a, a2, by simpa using a3, by simp [show ¬ bm = j by omega, h.bm], by simp [show ¬ bx = j by omega, h.bx], by simp [show ¬ by_ = j by omega, h.by'], ⟨rows.set i [.val (.int .u8 b)], by simp, by simpa using hl, fun r hr2 => ?_⟩, ?_⟩
 rcases List.mem_or_eq_of_mem_set hr2 with hr2 | rfl
 exact hr r hr2
 exact ⟨_, rfl⟩
 obtain ⟨q1, q2, q3, e, g1, g2, g3⟩ := h.img
 have hx : ∀ id, lo ≤ id → id < hi → (H.setBox j (rows.set i [.val (.int .u8 b)])).box id = H.box id := fun id h1 h2 => by simp [show ¬ id = j by omega]
 exact ⟨q1, q2, q3, e, g1.keep stableCell (Nat.le_refl _) (by simp; omega) (Nat.le_refl _) hx, g2.keep stableFlat (Nat.le_refl _) (by simp; omega) (Nat.le_refl _) hx, g3.keep stableJob (Nat.le_refl _) (by simp; omega) (Nat.le_refl _) hx⟩
theorem Y.toX (h : Y Hs j n lo hi bm bx by_ c m p1 p2 p3 H) (hm : Small2 m) : X Hs lo hi bm bx by_ c m p1 p2 p3 0 H := by
 obtain ⟨q1, q2, q3, e, g1, g2, g3⟩ := img_start h.img hm
 cases e
 exact ⟨h.ext, h.hs, h.hb, h.bm, h.bx, h.by', g1, g2, g3⟩
theorem Y.facts (h : Y Hs j n lo hi bm bx by_ c m p1 p2 p3 H) : ¬ bm = H.next ∧ ¬ bx = H.next ∧ ¬ by_ = H.next ∧ ¬ bm = j ∧ ¬ bx = j ∧ ¬ by_ = j := by
 have a := h.hs
 have a2 := h.hj
 have a3 := h.hb
 omega
end
theorem idx22M (id n i : Nat) (h : i < n) : aIndexAddr Tryz.prog 22 (.msl id n 11) (pi i) = some (.ptr id n i 0) := by
 unfold aIndexAddr; rw [show Tryz.prog.underlying 22 = some (.slice 44) by kernel_rfl]; simp [show szOf Tryz.prog 44 = some 11 by kernel_rfl, amsl h]
theorem idx23M (id n i : Nat) (h : i < n) : aIndexAddr Tryz.prog 23 (.msl id n 8) (pi i) = some (.ptr id n i 0) := by
 unfold aIndexAddr; rw [show Tryz.prog.underlying 23 = some (.slice 48) by kernel_rfl]; simp [show szOf Tryz.prog 48 = some 8 by kernel_rfl, amsl h]
theorem idx24M (id n i : Nat) (h : i < n) : aIndexAddr Tryz.prog 24 (.msl id n 7) (pi i) = some (.ptr id n i 0) := by
 unfold aIndexAddr; rw [show Tryz.prog.underlying 24 = some (.slice 55) by kernel_rfl]; simp [show szOf Tryz.prog 55 = some 7 by kernel_rfl, amsl h]
theorem idx45M (id n i : Nat) (h : i < n) : aIndexAddr Tryz.prog 45 (.msl id n 10) (pi i) = some (.ptr id n i 0) := by
 unfold aIndexAddr; rw [show Tryz.prog.underlying 45 = some (.slice 50) by kernel_rfl]; simp [show szOf Tryz.prog 50 = some 10 by kernel_rfl, amsl h]
theorem Sh.len {lo hi sz n : Nat} {H : AS} {p : PV} (h : Sh lo hi H p sz n) : lenOf p = some n := by
 rcases h with ⟨rfl, rfl | ⟨id, rfl⟩⟩ | ⟨id, rows, rfl, _⟩ <;> rfl
theorem Cs.len {lo hi k n : Nat} {H : AS} {p : PV} (h : Cs lo hi k H p n) : lenOf p = some n := by
 rcases h with ⟨rfl, rfl | ⟨id, rfl⟩⟩ | ⟨id, rows, rfl, _⟩ <;> rfl
theorem Js.len {lo hi n : Nat} {H : AS} {p : PV} (h : Js lo hi H p n) : lenOf p = some n := by
 rcases h with ⟨rfl, rfl | ⟨id, rfl⟩⟩ | ⟨id, rows, rfl, _⟩ <;> rfl
theorem Sh.get {lo hi sz n i : Nat} {H : AS} {p : PV} (h : Sh lo hi H p sz n) (hi2 : i < n) : ∃ id rows r, p = .msl id n sz ∧ (lo ≤ id ∧ id < hi) ∧ H.box id = some rows ∧ rows.length = n ∧ rows ≠ [] ∧ (∀ r ∈ rows, r.length = sz) ∧ rows[i]? = some r ∧ r.length = sz := by
 rcases h with ⟨h0, _⟩ | ⟨id, rows, e, hl, hb, h1, h2, h3⟩
 omega
 have hlt : i < rows.length := by omega
 exact ⟨id, rows, rows[i], e, hl, hb, h1, fun e => by rw [e] at hlt; simp at hlt, h3, List.getElem?_eq_getElem hlt, h3 _ (List.getElem_mem hlt)⟩
theorem Cs.get {lo hi k n i : Nat} {H : AS} {p : PV} (h : Cs lo hi k H p n) (hi2 : i < n) : ∃ id rows a0 a1 a2 a3 a4 a5 po pl no, p = .msl id n 8 ∧ (lo ≤ id ∧ id < hi) ∧ H.box id = some rows ∧ rows.length = n ∧ rows ≠ [] ∧ (∀ r ∈ rows, r.length = 8) ∧ rows[i]? = some [a0, a1, a2, a3, a4, a5, po, pl] ∧ Sh lo hi H po 10 no ∧ no ≤ 2 ^ 40 ∧ (k ≤ i → ∃ nl, ShL lo hi H pl nl ∧ nl ≤ 2 ^ 40) := by
 rcases h with ⟨h0, _⟩ | ⟨id, rows, e, hl, hb, h1, h2, h3, h4⟩
 omega
 have hlt : i < rows.length := by omega
 have hr := List.getElem?_eq_getElem hlt
 obtain ⟨a0, a1, a2, a3, a4, a5, po, pl, no, e3, f1, f2, f3⟩ := (h3 i _ hr).go
 rw [e3] at hr
 refine ⟨id, rows, a0, a1, a2, a3, a4, a5, po, pl, no, e, hl, hb, h1, fun e => by rw [e] at hlt; simp at hlt, fun r hr => ?_, hr, f1, f2, f3⟩
 obtain ⟨i, hi, rfl⟩ := List.getElem_of_mem hr
 exact (h3 i _ (List.getElem?_eq_getElem hi)).len
theorem Js.get {lo hi n i : Nat} {H : AS} {p : PV} (h : Js lo hi H p n) (hi2 : i < n) : ∃ id rows a0 a1 a2 a3 pc a5 a6 nc, p = .msl id n 7 ∧ (lo ≤ id ∧ id < hi) ∧ H.box id = some rows ∧ rows.length = n ∧ rows ≠ [] ∧ (∀ r ∈ rows, r.length = 7) ∧ rows[i]? = some [a0, a1, a2, a3, pc, a5, a6] ∧ Sh lo hi H pc 1 nc ∧ nc ≤ 2 ^ 40 := by
 rcases h with ⟨h0, _⟩ | ⟨id, rows, e, hl, hb, h1, h2, h3⟩
 omega
 have hlt : i < rows.length := by omega
 have hr := List.getElem?_eq_getElem hlt
 obtain ⟨a0, a1, a2, a3, pc, a5, a6, nc, e3, f1, f2⟩ := (h3 _ (List.getElem_mem hlt)).go
 rw [e3] at hr
 exact ⟨id, rows, a0, a1, a2, a3, pc, a5, a6, nc, e, hl, hb, h1, fun e => by rw [e] at hlt; simp at hlt, fun r hr => (h3 r hr).len, hr, f1, f2⟩
theorem appLoop {H : AS} {lo up nl : Nat} {pl : PV} {k : PV → AS → Prop} {v : List PV} (hL : ShL lo up H pl nl) (hnl : nl ≤ 2 ^ 40) (hlo : lo ≤ H.next) (hv : ∀ q ∈ v, Frozen q) (hk : ∀ p' H', Elsewhere pl p' H H' → p'.cells = [p'] → p'.okCells = true → p'.atomic = true → Run (k p' H')) : @appendK Tryz.prog ((H.setBox H.next [v]).bump 1) 46 46 pl (.msl H.next 1 3) ⟨k⟩ := by
 obtain ⟨rows, ho, h2, h3, h4⟩ := hL
 have ho2 : OutIs lo ((H.setBox H.next [v]).bump 1) pl 3 rows := ho.keep (by simp) fun id h5 h6 => by simp [show ¬ id = H.next by omega]
 refine appR (aappend_outF (elem := 52) (xd := .slice 52) (ys := [v]) ho2 (by simp; omega) (by kernel_rfl) (by kernel_rfl) (by kernel_rfl) (by kernel_rfl : zeroOf Tryz.prog 52 = some [.val (.int .i64 0), .val (.int .i64 0), .val (.int .i64 0)]) (by kernel_rfl : bytesOf Tryz.prog 52 = some 24) rfl (by decide) (by decide) (by simp [srcOf]) (by simpa using hv) (.inl (by simp; omega)) ?_)
 intro p' H' g1 g2 g3
 refine hk p' H' ⟨?_, g3.color, fun j hj hne => ?_, g3.mp, fun j n s e => ?_⟩ g1.cells g1.okCells g1.atomic
 have := g3.next; simp at this; omega
 rw [g3.box j (by simp; omega) hne]; simp [show ¬ j = H.next by omega]
 rcases g3.own j n s e with h | h
 exact .inl h
 simp at h; exact .inr (by omega)
theorem pl_ne {lo up nl : Nat} {H : AS} {pl : PV} (h : ShL lo up H pl nl) {id : Nat} (hu : up ≤ id) : ∀ n s, pl ≠ .msl id n s := fun n s e => by
 obtain ⟨rows, ho, h2, h3, h4⟩ := h
 have := h4 _ _ _ e; omega
theorem set_shape {rows : List (List PV)} {i s0 : Nat} {r' : List PV} (h : ∀ r ∈ rows, r.length = s0) (h' : r'.length = s0) : ∀ r ∈ rows.set i r', r.length = s0 := fun r hr => by
 rcases List.mem_or_eq_of_mem_set hr with hr | rfl
 ·exact h r hr
 ·exact h'
theorem get_opt {rows : List (List PV)} {i : Nat} {r : List PV} (h : rows[i]? = some r) (hi : i < rows.length) : rows[i] = r := by
 rw [List.getElem?_eq_getElem hi] at h; exact Option.some.inj h
theorem small2 {m : DImage} (h : OkImg m) : Small2 m := ⟨fun f hf => by
 have := (h.codes f hf).ops
 have := (h.codes f hf).loops
 omega, fun j hj => by
 have := (h.jobs j hj).codes
 omega⟩
theorem img_next {lo hi : Nat} {H H' : AS} {row : List PV} {m : DImage} (h : ImgAt lo hi H row m) (hn : H.next ≤ H'.next) (hb : ∀ id, lo ≤ id → id < hi → H'.box id = H.box id) (hh : hi ≤ H.next) : ImgAt lo hi H' row m := by
 obtain ⟨q1, q2, q3, e, g1, g2, g3⟩ := h
 exact ⟨q1, q2, q3, e, g1.keep stableCell (Nat.le_refl _) (by omega) hn hb, g2.keep stableFlat (Nat.le_refl _) (by omega) hn hb, g3.keep stableJob (Nat.le_refl _) (by omega) hn hb⟩
theorem y_start {Hs H1 H2 : AS} {j c : Nat} {m : DImage} {p1 p2 p3 : PV} {z1 z2 : List (List PV)} {bs : List UInt8} (h1 : Hs.Ext H1) (hm1 : Hs.next < H1.next) (hm : H1.box Hs.next = some [m.row c]) (hj : Hs.next + 1 ≤ j ∧ j < H1.next) (hbj : H1.box j = some (bs.map brow)) (hi : ImgAt H1.next H2.next H2 [ps m.name, p1, p2, p3] m) (h2 : H1.Ext H2) :
  Y Hs j bs.length H1.next H2.next Hs.next H2.next (H2.next + 1) c m p1 p2 p3 ((((((H2.setBox H2.next z1).bump 1).setBox H2.next [[ps m.name, p1, p2, p3]]).setBox (H2.next + 1) z2).bump 1).setBox (H2.next + 1) [m.row 1]) := by
 have hn := h2.next
 refine ⟨?_, by omega, by omega, by first | omega | (simp; done) | (simp; omega), ?_, by simp, by simp, ⟨bs.map brow, ?_, by simp, fun r hr => ?_⟩, img_next hi (by first | (simp; done) | (simp; omega)) (fun id a b => by simp [show ¬ id = H2.next by omega, show ¬ id = H2.next + 1 by omega]) (Nat.le_refl _)⟩
 exact .setBox (by omega) (.bump (.setBox (by omega) (.setBox (by omega) (.bump (.setBox (by omega) (h1.trans h2))))))
 simp [show ¬ Hs.next = H2.next by omega, show ¬ Hs.next = H2.next + 1 by omega]; rw [h2.box _ hm1]; exact hm
 simp [show ¬ j = H2.next by omega, show ¬ j = H2.next + 1 by omega]; rw [h2.box _ hj.2]; exact hbj
 obtain ⟨b, -, rfl⟩ := List.mem_map.1 hr
 exact ⟨_, rfl⟩
theorem ownOk (H : AS) (c : Nat) (m : DImage) (hm : m.In) (hsm : m.Small) (hE : encE m = 0) : ACalls Tryz.prog 5 [.agg (m.row c)] H fun q H' => q = pb true ∧ H' = H := by
 refine ACalls_intro Tryz.func5 rfl (by kernel_rfl) (by simp) fun hwf hbel => ?_
 obtain ⟨hc, hl, hB, hok⟩ := enc_ok hm hE
 obtain ⟨hD, hR⟩ := encFile_dec hok hc hl
 have hS2 := small2 (okImg hc)
 have hlen : (encFile m).length < 2 ^ 62 := by omega
 have nC := hm.typed.ncells
 have nF := hm.typed.ncodes
 have nJ := hm.typed.njobs
 repeat' first
  | refine T_seq ?_
  | refine T_rgn ?_
  | refine T_cd ?_
  | refine T_sk ?_
  | refine T_rt ?_
  | refine T_block ?_
  | refine T_ex ?_
  | refine Kt_then ?_
  | refine Kt_block ?_
  | refine Kr_then ?_
  | refine Kr_block ?_
  | refine Ke_here ?_
  | refine Ke_then ?_
  | refine Hid.mk ?_
  | (refine callR (encodeO _ c m hm.typed.ncells hm.typed.ncodes hm.typed.njobs hm.sizes hm.addr hc hl) ?_; rintro _ H1 ⟨j, hj1, hj2, rfl, hbj, hx1⟩; have hbm : H1.box H.next = some [m.row c] := (by rw [hx1.box _ (by simp)]; simp [DImage.row]); have hnj : ¬ j = H.next := (by simp at hj1; omega); have hn1 := hx1.next; simp at hn1 hj1; have hxs : H.Ext H1 := (AS.Ext.bump (.setBox (Nat.le_refl _) (.refl _))).trans hx1)
  | (refine callR (encodeIs _ c m hm.typed.ncells hm.typed.ncodes hm.typed.njobs hm.sizes hm.addr) ?_; rw [hB, hE]; rintro _ Hz ⟨rfl, hz⟩; subst Hz)
  | (refine callR (decodeT _ j (encFile m) hbj hj2 hlen hD) ?_; rw [hR]; rintro _ H2 ⟨xrow, rfl, him, hx2⟩; have hi0 := him; obtain ⟨p1, p2, p3, rfl, l1, l2, l3⟩ := hi0; have k1 := l1.okCells; have k2 := l2.okCells; have k3 := l3.okCells; have c1 := l1.cells; have c2 := l2.cells; have c3 := l3.cells; have a1 := l1.atomic; have a2 := l2.atomic; have a3 := l3.atomic; have hn2 := hx2.next; have hbj2 : H2.box j = some ((encFile m).map brow) := (hx2.box _ hj2).trans hbj; have hnj2 : ¬ j = H2.next := (by omega))
  | (refine callR (decodeF _ j (encFile m) (by simp [hbj2, hnj2]) (by simp; omega) hlen hD) ?_; rw [hR]; rintro _ Hz ⟨rfl, hz⟩; subst Hz)
  | (refine callR (sameOwn _ _ _ c _ m st.img hsm) ?_; rintro _ Hz ⟨rfl, hz⟩; subst Hz)
  | (refine callR (rEncode _ c m hm hc hl) ?_; rintro _ Hz ⟨rfl, hz⟩; subst Hz)
  | (refine callR (sameImageP _ 1 c m m hsm) ?_; rw [decide_eq_true rfl]; rintro _ Hz ⟨rfl, hz⟩; subst Hz)
  | (refine callR (eqBytes _ _ _ (encFile m) (encFile m) hlen) ?_; rw [decide_eq_true rfl]; rintro _ Hz ⟨rfl, hz⟩; subst Hz)
  | (refine callR (awakeIs _) ?_; rintro _ Hz ⟨rfl, hz⟩; subst Hz)
  | (refine eitherK.raw ?_; simp [*])
  | (refine appLoop hL hnl (by omega) (by simp) ?_; intro pn H5 he hpc hpo hpa; have hux : H5.box up = some [[ps m.name, p1, p2, p3]] := (he.box up (by omega) (pl_ne hL (Nat.le_refl _))).trans hbx3; have hu2 : H5.box id2 = some rows2 := exact_grow hL he (by omega) (by decide) id2 rows2 hid2.1 hid2.2 hb2 hne2 hr2; have hcl := he.color)
  | refine T_dr (id := 27) (fun i => i = up ∨ i = id2) [14] (.free 0 (.free 1 (.free 2 (.free 3 (.free 4 (.free 5 (.free 6 (.free 7 (.free 8 (.free 9 (.sole 10 (.sole 11 (.free 12 (.free 13 (.sole 14 .done))))))))))))))) mix ?_
  | refine Gs.mk (fun g => ?_) (fun g => ?_) <;> (try simp only [nm] at g) <;> try (exfalso; omega)
  | refine Gr.mk (fun g => ?_) (fun g => ?_) <;> (try simp only [nm] at g) <;> try (exfalso; omega)
  | (refine Run.of ?_; simp (maxSteps := 1000000) (disch := first | omega | assumption | (simp; done) | fail) [*, DImage.row, wrap_i64, Nat.add_assoc, idx28, idx22M, idx23M, idx24M, idx45M, idx53M, splice])
 all_goals (try (refine Kx.mk ?_; refine owes_one (.inr rfl) hwf rfl ?_ ?_ ?_ ?_ <;> first | exact st.ext | (simp [*]; done) | skip))
 obtain ⟨lo, hlo⟩ : ∃ x, H1.next = x := ⟨_, rfl⟩
 obtain ⟨up, hup⟩ : ∃ x, H2.next = x := ⟨_, rfl⟩
 obtain ⟨cc, hcc⟩ : ∃ x, H1.color = x := ⟨_, rfl⟩
 refine T_lp (fun k F H' => ∃ i : Nat, k = (encFile m).length - i ∧ i ≤ (encFile m).length ∧ F 1 = .ptr H.next 1 0 0 ∧ F 5 = PV.sl cc 1 ((encFile m).map brow) ∧ F 7 = .ptr up 1 0 0 ∧ F 9 = .ptr (up + 1) 1 0 0 ∧ F 3 = .msl j (encFile m).length 1 ∧ F 4 = pi 0 ∧ F 11 = pi 0 ∧ F 45 = .msl j (encFile m).length 1 ∧ F 46 = pi (encFile m).length ∧ F 47 = pi i ∧ Y H j (encFile m).length lo up H.next up (up + 1) c m p1 p2 p3 H') ((encFile m).length) ?_ ?_
 exact ⟨0, by omega, by omega, by simp [*], by simp [*], by simp [*], by simp [*], by simp [*], by simp [*], by simp [*], by simp [*], by simp [*], by simp [*], by subst hlo; subst hup; exact y_start hxs (by omega) hbm ⟨hj1, hj2⟩ hbj him hx2⟩
 rintro k F H1 ⟨i, rfl, hi, g1, g5, g7, g9, g3, g4, g11, g45, g46, g47, st⟩
 have hbm3 := st.bm
 have hbx3 := st.bx
 have hby3 := st.by'
 obtain ⟨rb, hrb, hrl, hrr⟩ := st.bytes
 have hX := st.toX hS2
 have hl1 := hX.s1.len
 have hgb : i < (encFile m).length → ∃ b : Int, rb[i]? = some [.val (.int .u8 b)] := fun e => by
  have hlt : i < rb.length := by omega
  obtain ⟨b, e2⟩ := hrr _ (List.getElem_mem hlt)
  exact ⟨b, by rw [List.getElem?_eq_getElem hlt, e2]⟩
 rcases Nat.lt_or_ge i (encFile m).length with hlt | hge
 all_goals (try (have hgb2 := hgb (by assumption); obtain ⟨b, hgb2⟩ := hgb2; have hgb3 : ∀ h : i < rb.length, rb[i]'h = [.val (.int .u8 b)] := fun h => get_opt hgb2 h))
 all_goals clear hgb
 repeat' first
  | refine T_seq ?_
  | refine T_rgn ?_
  | refine T_cd ?_
  | refine T_sk ?_
  | refine T_rt ?_
  | refine T_block ?_
  | refine T_ex ?_
  | refine Kt_then ?_
  | refine Kt_block ?_
  | refine Kr_then ?_
  | refine Kr_block ?_
  | refine Kr_loop ?_
  | refine Ke_here ?_
  | refine Ke_then ?_
  | refine Ke_loop ?_
  | refine Ke_block ?_
  | refine Hid.mk ?_
  | (refine callR (encodeO _ c m hm.typed.ncells hm.typed.ncodes hm.typed.njobs hm.sizes hm.addr hc hl) ?_; rintro _ H1 ⟨j, hj1, hj2, rfl, hbj, hx1⟩; have hbm : H1.box H.next = some [m.row c] := (by rw [hx1.box _ (by simp)]; simp [DImage.row]); have hnj : ¬ j = H.next := (by simp at hj1; omega); have hn1 := hx1.next; simp at hn1 hj1; have hxs : H.Ext H1 := (AS.Ext.bump (.setBox (Nat.le_refl _) (.refl _))).trans hx1)
  | (refine callR (encodeIs _ c m hm.typed.ncells hm.typed.ncodes hm.typed.njobs hm.sizes hm.addr) ?_; rw [hB, hE]; rintro _ Hz ⟨rfl, hz⟩; subst Hz)
  | (refine callR (decodeT _ j (encFile m) hbj hj2 hlen hD) ?_; rw [hR]; rintro _ H2 ⟨xrow, rfl, him, hx2⟩; have hi0 := him; obtain ⟨p1, p2, p3, rfl, l1, l2, l3⟩ := hi0; have k1 := l1.okCells; have k2 := l2.okCells; have k3 := l3.okCells; have c1 := l1.cells; have c2 := l2.cells; have c3 := l3.cells; have a1 := l1.atomic; have a2 := l2.atomic; have a3 := l3.atomic; have hn2 := hx2.next; have hbj2 : H2.box j = some ((encFile m).map brow) := (hx2.box _ hj2).trans hbj; have hnj2 : ¬ j = H2.next := (by omega))
  | (refine callR (decodeF _ j (encFile m) (by simp [hbj2, hnj2]) (by simp; omega) hlen hD) ?_; rw [hR]; rintro _ Hz ⟨rfl, hz⟩; subst Hz)
  | (refine callR (sameOwn _ _ _ c _ m st.img hsm) ?_; rintro _ Hz ⟨rfl, hz⟩; subst Hz)
  | (refine callR (rEncode _ c m hm hc hl) ?_; rintro _ Hz ⟨rfl, hz⟩; subst Hz)
  | (refine callR (sameImageP _ 1 c m m hsm) ?_; rw [decide_eq_true rfl]; rintro _ Hz ⟨rfl, hz⟩; subst Hz)
  | (refine callR (eqBytes _ _ _ (encFile m) (encFile m) hlen) ?_; rw [decide_eq_true rfl]; rintro _ Hz ⟨rfl, hz⟩; subst Hz)
  | (refine callR (awakeIs _) ?_; rintro _ Hz ⟨rfl, hz⟩; subst Hz)
  | (refine eitherK.raw ?_; simp [*])
  | (refine appLoop hL hnl (by omega) (by simp) ?_; intro pn H5 he hpc hpo hpa; have hux : H5.box up = some [[ps m.name, p1, p2, p3]] := (he.box up (by omega) (pl_ne hL (Nat.le_refl _))).trans hbx3; have hu2 : H5.box id2 = some rows2 := exact_grow hL he (by omega) (by decide) id2 rows2 hid2.1 hid2.2 hb2 hne2 hr2; have hcl := he.color)
  | refine T_dr (id := 27) (fun i => i = up ∨ i = id2) [14] (.free 0 (.free 1 (.free 2 (.free 3 (.free 4 (.free 5 (.free 6 (.free 7 (.free 8 (.free 9 (.sole 10 (.sole 11 (.free 12 (.free 13 (.sole 14 .done))))))))))))))) mix ?_
  | refine Gs.mk (fun g => ?_) (fun g => ?_) <;> (try simp only [nm] at g) <;> try (exfalso; omega)
  | refine Gr.mk (fun g => ?_) (fun g => ?_) <;> (try simp only [nm] at g) <;> try (exfalso; omega)
  | (refine Run.of ?_; simp (maxSteps := 1000000) (disch := first | omega | assumption | (simp; done) | fail) [*, DImage.row, wrap_i64, Nat.add_assoc, idx28, idx22M, idx23M, idx24M, idx45M, idx53M, splice])
 all_goals (try (refine Kx.mk ?_; refine owes_one (.inr rfl) hwf rfl ?_ ?_ ?_ ?_ <;> first | exact st.ext | (simp [*]; done) | skip))
 all_goals first | (refine Kt_loop ⟨_, ?_, i + 1, rfl, by omega, by simp [*], by simp [*], by simp [*], by simp [*], by simp [*], by simp [*], by simp [*], by simp [*], by simp [*], by simp [*], st.write hrb hrl hrr⟩ <;> omega) | skip
 all_goals (try (refine Kx.mk ?_; refine owes_one (.inr rfl) hwf rfl ?_ ?_ ?_ ?_ <;> first | exact st.ext | (simp [*]; done) | skip))
 refine T_lp (fun k F H' => ∃ i : Nat, k = m.cells.length - i ∧ i ≤ m.cells.length ∧ F 1 = .ptr H.next 1 0 0 ∧ F 5 = PV.sl cc 1 ((encFile m).map brow) ∧ F 7 = .ptr up 1 0 0 ∧ F 9 = .ptr (up + 1) 1 0 0 ∧ F 71 = pi m.cells.length ∧ F 72 = pi i ∧ X H lo up H.next up (up + 1) c m p1 p2 p3 0 H') (m.cells.length) ?_ ?_
 exact ⟨0, by omega, by omega, by simp [*], by simp [*], by simp [*], by simp [*], by simp [*], by simp [*], hX⟩
 rintro k F H1 ⟨i, rfl, hi, g1, g5, g7, g9, g71, g72, st⟩
 have hbm3 := st.bm
 have hbx3 := st.bx
 have hby3 := st.by'
 have hl2 := st.s2.len
 rcases Nat.lt_or_ge i m.cells.length with hlt | hge
 all_goals (try (have hge := st.s1.get (by assumption); obtain ⟨id1, rows1, r1, e1, hid, hb1, hn1, hne1, hr1, hg1, hrl1⟩ := hge; have hg3 : ∀ h : i < rows1.length, rows1[i]'h = r1 := fun h => get_opt hg1 h))
 repeat' first
  | refine T_seq ?_
  | refine T_rgn ?_
  | refine T_cd ?_
  | refine T_sk ?_
  | refine T_rt ?_
  | refine T_block ?_
  | refine T_ex ?_
  | refine Kt_then ?_
  | refine Kt_block ?_
  | refine Kr_then ?_
  | refine Kr_block ?_
  | refine Kr_loop ?_
  | refine Ke_here ?_
  | refine Ke_then ?_
  | refine Ke_loop ?_
  | refine Ke_block ?_
  | refine Hid.mk ?_
  | (refine callR (encodeO _ c m hm.typed.ncells hm.typed.ncodes hm.typed.njobs hm.sizes hm.addr hc hl) ?_; rintro _ H1 ⟨j, hj1, hj2, rfl, hbj, hx1⟩; have hbm : H1.box H.next = some [m.row c] := (by rw [hx1.box _ (by simp)]; simp [DImage.row]); have hnj : ¬ j = H.next := (by simp at hj1; omega); have hn1 := hx1.next; simp at hn1 hj1; have hxs : H.Ext H1 := (AS.Ext.bump (.setBox (Nat.le_refl _) (.refl _))).trans hx1)
  | (refine callR (encodeIs _ c m hm.typed.ncells hm.typed.ncodes hm.typed.njobs hm.sizes hm.addr) ?_; rw [hB, hE]; rintro _ Hz ⟨rfl, hz⟩; subst Hz)
  | (refine callR (decodeT _ j (encFile m) hbj hj2 hlen hD) ?_; rw [hR]; rintro _ H2 ⟨xrow, rfl, him, hx2⟩; have hi0 := him; obtain ⟨p1, p2, p3, rfl, l1, l2, l3⟩ := hi0; have k1 := l1.okCells; have k2 := l2.okCells; have k3 := l3.okCells; have c1 := l1.cells; have c2 := l2.cells; have c3 := l3.cells; have a1 := l1.atomic; have a2 := l2.atomic; have a3 := l3.atomic; have hn2 := hx2.next; have hbj2 : H2.box j = some ((encFile m).map brow) := (hx2.box _ hj2).trans hbj; have hnj2 : ¬ j = H2.next := (by omega))
  | (refine callR (decodeF _ j (encFile m) (by simp [hbj2, hnj2]) (by simp; omega) hlen hD) ?_; rw [hR]; rintro _ Hz ⟨rfl, hz⟩; subst Hz)
  | (refine callR (sameOwn _ _ _ c _ m st.img hsm) ?_; rintro _ Hz ⟨rfl, hz⟩; subst Hz)
  | (refine callR (rEncode _ c m hm hc hl) ?_; rintro _ Hz ⟨rfl, hz⟩; subst Hz)
  | (refine callR (sameImageP _ 1 c m m hsm) ?_; rw [decide_eq_true rfl]; rintro _ Hz ⟨rfl, hz⟩; subst Hz)
  | (refine callR (eqBytes _ _ _ (encFile m) (encFile m) hlen) ?_; rw [decide_eq_true rfl]; rintro _ Hz ⟨rfl, hz⟩; subst Hz)
  | (refine callR (awakeIs _) ?_; rintro _ Hz ⟨rfl, hz⟩; subst Hz)
  | (refine eitherK.raw ?_; simp [*])
  | (refine appLoop hL hnl (by omega) (by simp) ?_; intro pn H5 he hpc hpo hpa; have hux : H5.box up = some [[ps m.name, p1, p2, p3]] := (he.box up (by omega) (pl_ne hL (Nat.le_refl _))).trans hbx3; have hu2 : H5.box id2 = some rows2 := exact_grow hL he (by omega) (by decide) id2 rows2 hid2.1 hid2.2 hb2 hne2 hr2; have hcl := he.color)
  | refine T_dr (id := 27) (fun i => i = up ∨ i = id2) [14] (.free 0 (.free 1 (.free 2 (.free 3 (.free 4 (.free 5 (.free 6 (.free 7 (.free 8 (.free 9 (.sole 10 (.sole 11 (.free 12 (.free 13 (.sole 14 .done))))))))))))))) mix ?_
  | refine Gs.mk (fun g => ?_) (fun g => ?_) <;> (try simp only [nm] at g) <;> try (exfalso; omega)
  | refine Gr.mk (fun g => ?_) (fun g => ?_) <;> (try simp only [nm] at g) <;> try (exfalso; omega)
  | (refine Run.of ?_; simp (maxSteps := 1000000) (disch := first | omega | assumption | (simp; done) | fail) [*, DImage.row, wrap_i64, Nat.add_assoc, idx28, idx22M, idx23M, idx24M, idx45M, idx53M, splice])
 all_goals (try (refine Kx.mk ?_; refine owes_one (.inr rfl) hwf rfl ?_ ?_ ?_ ?_ <;> first | exact st.ext | (simp [*]; done) | skip))
 all_goals first | (refine Kt_loop ⟨_, ?_, i + 1, rfl, by omega, by simp [*], by simp [*], by simp [*], by simp [*], by simp [*], by simp [*], st.write hid hb1 hne1 hr1 (by simp) (set_shape hr1 (by simp; omega)) (by decide) (by decide) (by decide)⟩ <;> omega) | skip
 all_goals (try (refine Kx.mk ?_; refine owes_one (.inr rfl) hwf rfl ?_ ?_ ?_ ?_ <;> first | exact st.ext | (simp [*]; done) | skip))
 refine T_lp (fun k F H' => ∃ i : Nat, k = m.codes.length - i ∧ i ≤ m.codes.length ∧ F 1 = .ptr H.next 1 0 0 ∧ F 5 = PV.sl cc 1 ((encFile m).map brow) ∧ F 7 = .ptr up 1 0 0 ∧ F 9 = .ptr (up + 1) 1 0 0 ∧ F 83 = pi m.codes.length ∧ F 84 = pi i ∧ X H lo up H.next up (up + 1) c m p1 p2 p3 i H') (m.codes.length) ?_ ?_
 exact ⟨0, by omega, by omega, by simp [*], by simp [*], by simp [*], by simp [*], by simp [*], by simp [*], st⟩
 rintro k F H1 ⟨i, rfl, hi, g1, g5, g7, g9, g83, g84, st⟩
 have hbm3 := st.bm
 have hbx3 := st.bx
 have hby3 := st.by'
 have hl3 := st.s3.len
 rcases Nat.lt_or_ge i m.codes.length with hlt | hge
 all_goals (try (have hge := st.s2.get (by assumption); obtain ⟨id2, rows2, a0, a1, a2, a3, a4, a5, po, pl, no, e2, hid2, hb2, hn2, hne2, hr2, hg2, hso, hno, hsl⟩ := hge; have hg3 : ∀ h : i < rows2.length, rows2[i]'h = [a0, a1, a2, a3, a4, a5, po, pl] := fun h => get_opt hg2 h; have hlo4 := hso.len; have hsl := hsl (Nat.le_refl _)))
 repeat' first
  | refine T_seq ?_
  | refine T_rgn ?_
  | refine T_cd ?_
  | refine T_sk ?_
  | refine T_rt ?_
  | refine T_block ?_
  | refine T_ex ?_
  | refine Kt_then ?_
  | refine Kt_block ?_
  | refine Kr_then ?_
  | refine Kr_block ?_
  | refine Kr_loop ?_
  | refine Ke_here ?_
  | refine Ke_then ?_
  | refine Ke_loop ?_
  | refine Ke_block ?_
  | refine Hid.mk ?_
  | (refine callR (encodeO _ c m hm.typed.ncells hm.typed.ncodes hm.typed.njobs hm.sizes hm.addr hc hl) ?_; rintro _ H1 ⟨j, hj1, hj2, rfl, hbj, hx1⟩; have hbm : H1.box H.next = some [m.row c] := (by rw [hx1.box _ (by simp)]; simp [DImage.row]); have hnj : ¬ j = H.next := (by simp at hj1; omega); have hn1 := hx1.next; simp at hn1 hj1; have hxs : H.Ext H1 := (AS.Ext.bump (.setBox (Nat.le_refl _) (.refl _))).trans hx1)
  | (refine callR (encodeIs _ c m hm.typed.ncells hm.typed.ncodes hm.typed.njobs hm.sizes hm.addr) ?_; rw [hB, hE]; rintro _ Hz ⟨rfl, hz⟩; subst Hz)
  | (refine callR (decodeT _ j (encFile m) hbj hj2 hlen hD) ?_; rw [hR]; rintro _ H2 ⟨xrow, rfl, him, hx2⟩; have hi0 := him; obtain ⟨p1, p2, p3, rfl, l1, l2, l3⟩ := hi0; have k1 := l1.okCells; have k2 := l2.okCells; have k3 := l3.okCells; have c1 := l1.cells; have c2 := l2.cells; have c3 := l3.cells; have a1 := l1.atomic; have a2 := l2.atomic; have a3 := l3.atomic; have hn2 := hx2.next; have hbj2 : H2.box j = some ((encFile m).map brow) := (hx2.box _ hj2).trans hbj; have hnj2 : ¬ j = H2.next := (by omega))
  | (refine callR (decodeF _ j (encFile m) (by simp [hbj2, hnj2]) (by simp; omega) hlen hD) ?_; rw [hR]; rintro _ Hz ⟨rfl, hz⟩; subst Hz)
  | (refine callR (sameOwn _ _ _ c _ m st.img hsm) ?_; rintro _ Hz ⟨rfl, hz⟩; subst Hz)
  | (refine callR (rEncode _ c m hm hc hl) ?_; rintro _ Hz ⟨rfl, hz⟩; subst Hz)
  | (refine callR (sameImageP _ 1 c m m hsm) ?_; rw [decide_eq_true rfl]; rintro _ Hz ⟨rfl, hz⟩; subst Hz)
  | (refine callR (eqBytes _ _ _ (encFile m) (encFile m) hlen) ?_; rw [decide_eq_true rfl]; rintro _ Hz ⟨rfl, hz⟩; subst Hz)
  | (refine callR (awakeIs _) ?_; rintro _ Hz ⟨rfl, hz⟩; subst Hz)
  | (refine eitherK.raw ?_; simp [*])
  | (refine appLoop hL hnl (by omega) (by simp) ?_; intro pn H5 he hpc hpo hpa; have hux : H5.box up = some [[ps m.name, p1, p2, p3]] := (he.box up (by omega) (pl_ne hL (Nat.le_refl _))).trans hbx3; have hu2 : H5.box id2 = some rows2 := exact_grow hL he (by omega) (by decide) id2 rows2 hid2.1 hid2.2 hb2 hne2 hr2; have hcl := he.color)
  | refine T_dr (id := 27) (fun i => i = up ∨ i = id2) [14] (.free 0 (.free 1 (.free 2 (.free 3 (.free 4 (.free 5 (.free 6 (.free 7 (.free 8 (.free 9 (.sole 10 (.sole 11 (.free 12 (.free 13 (.sole 14 .done))))))))))))))) mix ?_
  | refine Gs.mk (fun g => ?_) (fun g => ?_) <;> (try simp only [nm] at g) <;> try (exfalso; omega)
  | refine Gr.mk (fun g => ?_) (fun g => ?_) <;> (try simp only [nm] at g) <;> try (exfalso; omega)
  | (refine Run.of ?_; simp (maxSteps := 1000000) (disch := first | omega | assumption | (simp; done) | fail) [*, DImage.row, wrap_i64, Nat.add_assoc, idx28, idx22M, idx23M, idx24M, idx45M, idx53M, splice])
 all_goals (try (refine Kx.mk ?_; refine owes_one (.inr rfl) hwf rfl ?_ ?_ ?_ ?_ <;> first | exact st.ext | (simp [*]; done) | skip))
 all_goals first | (refine Kt_loop x) | skip
 all_goals (try (refine Kx.mk ?_; refine owes_one (.inr rfl) hwf rfl ?_ ?_ ?_ ?_ <;> first | exact st.ext | (simp [*]; done) | skip))
 refine T_lp (fun k F H' => ∃ q : Nat, k = no - q ∧ q ≤ no ∧ F 1 = .ptr H.next 1 0 0 ∧ F 5 = PV.sl cc 1 ((encFile m).map brow) ∧ F 7 = .ptr up 1 0 0 ∧ F 9 = .ptr (up + 1) 1 0 0 ∧ F 83 = pi m.codes.length ∧ F 84 = pi i ∧ F 14 = pi i ∧ F 93 = pi no ∧ F 94 = pi q ∧ H'.box id2 = some rows2 ∧ Sh lo up H' po 10 no ∧ (∃ nl, ShL lo up H' pl nl ∧ nl ≤ 2 ^ 40) ∧ X H lo up H.next up (up + 1) c m p1 p2 p3 i H') (no) ?_ ?_
 exact ⟨0, by omega, by omega, by simp [*], by simp [*], by simp [*], by simp [*], by simp [*], by simp [*], by simp [*], by simp [*], by simp [*], hb2, hso, hsl, st⟩
 rintro k F H1 ⟨q, rfl, hq, g1, g5, g7, g9, g83, g84, g14, g93, g94, hb2, hso, hsl, st⟩
 have hbm3 := st.bm
 have hbx3 := st.bx
 have hby3 := st.by'
 obtain ⟨nl, hL, hnl⟩ := hsl
 have hup := st.hb
 have hlu := st.hs
 have nu : ¬ up = H1.next := by omega
 have nu2 : ¬ id2 = H1.next := by omega
 rcases Nat.lt_or_ge q no with hlt2 | hge2
 all_goals (try (have hge := hso.get (by assumption); obtain ⟨id4, rows4, r4, e4, hid4, hb4, hn4, hne4, hr4, hg4, hrl4⟩ := hge; have hg5 : ∀ h : q < rows4.length, rows4[q]'h = r4 := fun h => get_opt hg4 h))
 repeat' first
  | refine T_seq ?_
  | refine T_rgn ?_
  | refine T_cd ?_
  | refine T_sk ?_
  | refine T_rt ?_
  | refine T_block ?_
  | refine T_ex ?_
  | refine Kt_then ?_
  | refine Kt_block ?_
  | refine Kr_then ?_
  | refine Kr_block ?_
  | refine Kr_loop ?_
  | refine Ke_here ?_
  | refine Ke_then ?_
  | refine Ke_loop ?_
  | refine Ke_block ?_
  | refine Hid.mk ?_
  | (refine callR (encodeO _ c m hm.typed.ncells hm.typed.ncodes hm.typed.njobs hm.sizes hm.addr hc hl) ?_; rintro _ H1 ⟨j, hj1, hj2, rfl, hbj, hx1⟩; have hbm : H1.box H.next = some [m.row c] := (by rw [hx1.box _ (by simp)]; simp [DImage.row]); have hnj : ¬ j = H.next := (by simp at hj1; omega); have hn1 := hx1.next; simp at hn1 hj1; have hxs : H.Ext H1 := (AS.Ext.bump (.setBox (Nat.le_refl _) (.refl _))).trans hx1)
  | (refine callR (encodeIs _ c m hm.typed.ncells hm.typed.ncodes hm.typed.njobs hm.sizes hm.addr) ?_; rw [hB, hE]; rintro _ Hz ⟨rfl, hz⟩; subst Hz)
  | (refine callR (decodeT _ j (encFile m) hbj hj2 hlen hD) ?_; rw [hR]; rintro _ H2 ⟨xrow, rfl, him, hx2⟩; have hi0 := him; obtain ⟨p1, p2, p3, rfl, l1, l2, l3⟩ := hi0; have k1 := l1.okCells; have k2 := l2.okCells; have k3 := l3.okCells; have c1 := l1.cells; have c2 := l2.cells; have c3 := l3.cells; have a1 := l1.atomic; have a2 := l2.atomic; have a3 := l3.atomic; have hn2 := hx2.next; have hbj2 : H2.box j = some ((encFile m).map brow) := (hx2.box _ hj2).trans hbj; have hnj2 : ¬ j = H2.next := (by omega))
  | (refine callR (decodeF _ j (encFile m) (by simp [hbj2, hnj2]) (by simp; omega) hlen hD) ?_; rw [hR]; rintro _ Hz ⟨rfl, hz⟩; subst Hz)
  | (refine callR (sameOwn _ _ _ c _ m st.img hsm) ?_; rintro _ Hz ⟨rfl, hz⟩; subst Hz)
  | (refine callR (rEncode _ c m hm hc hl) ?_; rintro _ Hz ⟨rfl, hz⟩; subst Hz)
  | (refine callR (sameImageP _ 1 c m m hsm) ?_; rw [decide_eq_true rfl]; rintro _ Hz ⟨rfl, hz⟩; subst Hz)
  | (refine callR (eqBytes _ _ _ (encFile m) (encFile m) hlen) ?_; rw [decide_eq_true rfl]; rintro _ Hz ⟨rfl, hz⟩; subst Hz)
  | (refine callR (awakeIs _) ?_; rintro _ Hz ⟨rfl, hz⟩; subst Hz)
  | (refine eitherK.raw ?_; simp [*])
  | (refine appLoop hL hnl (by omega) (by simp) ?_; intro pn H5 he hpc hpo hpa; have hux : H5.box up = some [[ps m.name, p1, p2, p3]] := (he.box up (by omega) (pl_ne hL (Nat.le_refl _))).trans hbx3; have hu2 : H5.box id2 = some rows2 := exact_grow hL he (by omega) (by decide) id2 rows2 hid2.1 hid2.2 hb2 hne2 hr2; have hcl := he.color)
  | refine T_dr (id := 27) (fun i => i = up ∨ i = id2) [14] (.free 0 (.free 1 (.free 2 (.free 3 (.free 4 (.free 5 (.free 6 (.free 7 (.free 8 (.free 9 (.sole 10 (.sole 11 (.free 12 (.free 13 (.sole 14 .done))))))))))))))) mix ?_
  | refine Gs.mk (fun g => ?_) (fun g => ?_) <;> (try simp only [nm] at g) <;> try (exfalso; omega)
  | refine Gr.mk (fun g => ?_) (fun g => ?_) <;> (try simp only [nm] at g) <;> try (exfalso; omega)
  | (refine Run.of ?_; simp (maxSteps := 1000000) (disch := first | omega | assumption | (simp; done) | fail) [*, DImage.row, wrap_i64, Nat.add_assoc, idx28, idx22M, idx23M, idx24M, idx45M, idx53M, splice])
 all_goals (try (refine Kx.mk ?_; refine owes_one (.inr rfl) hwf rfl ?_ ?_ ?_ ?_ <;> first | exact st.ext | (simp [*]; done) | skip))
 all_goals first | (refine Kt_loop ⟨_, ?_, q + 1, rfl, by omega, by simp [*], by simp [*], by simp [*], by simp [*], by simp [*], by simp [*], by simp [*], by simp [*], by simp [*], exact_set hb4 hne4 hr4 (by decide) id2 rows2 hid2.1 hid2.2 hb2 hne2 hr2, hso.write hb4 hne4 hr4 (by simp) (set_shape hr4 (by simp; omega)), ⟨nl, hL.set hb4 hne4 hr4 (by decide), hnl⟩, st.write hid4 hb4 hne4 hr4 (by simp) (set_shape hr4 (by simp; omega)) (by decide) (by decide) (by decide)⟩ <;> omega) | (refine Kt_loop ⟨_, ?_, i + 1, rfl, by omega, by simp [*], by simp [*], by simp [*], by simp [*], by simp [*], by simp [*], (st.next e2 hid2 hb2 hlt hg2 rfl hL he rfl).2⟩ <;> omega) | skip
 all_goals (try (refine Kx.mk ?_; refine owes_one (.inr rfl) hwf rfl ?_ ?_ ?_ ?_ <;> first | exact st.ext | (simp [*]; done) | skip))
 refine T_lp (fun k F H' => ∃ i : Nat, k = m.jobs.length - i ∧ i ≤ m.jobs.length ∧ F 1 = .ptr H.next 1 0 0 ∧ F 5 = PV.sl cc 1 ((encFile m).map brow) ∧ F 7 = .ptr up 1 0 0 ∧ F 9 = .ptr (up + 1) 1 0 0 ∧ F 124 = pi m.jobs.length ∧ F 125 = pi i ∧ X H lo up H.next up (up + 1) c m p1 p2 p3 m.codes.length H') (m.jobs.length) ?_ ?_
 exact ⟨0, by omega, by omega, by simp [*], by simp [*], by simp [*], by simp [*], by simp [*], by simp [*], by rw [show i = m.codes.length by omega] at st; exact st⟩
 rintro k F H1 ⟨i, rfl, hi, g1, g5, g7, g9, g124, g125, st⟩
 have hbm3 := st.bm
 have hbx3 := st.bx
 have hby3 := st.by'
 rcases Nat.lt_or_ge i m.jobs.length with hlt | hge
 all_goals (try (have hge := st.s3.get (by assumption); obtain ⟨id3, rows3, a0, a1, a2, a3, pc, a5, a6, nc, e3, hid3, hb3, hn3, hne3, hr3, hg2, hsc, hnc⟩ := hge; have hg3 : ∀ h : i < rows3.length, rows3[i]'h = [a0, a1, a2, a3, pc, a5, a6] := fun h => get_opt hg2 h; have hlo4 := hsc.len))
 repeat' first
  | refine T_seq ?_
  | refine T_rgn ?_
  | refine T_cd ?_
  | refine T_sk ?_
  | refine T_rt ?_
  | refine T_block ?_
  | refine T_ex ?_
  | refine Kt_then ?_
  | refine Kt_block ?_
  | refine Kr_then ?_
  | refine Kr_block ?_
  | refine Kr_loop ?_
  | refine Ke_here ?_
  | refine Ke_then ?_
  | refine Ke_loop ?_
  | refine Ke_block ?_
  | refine Hid.mk ?_
  | (refine callR (encodeO _ c m hm.typed.ncells hm.typed.ncodes hm.typed.njobs hm.sizes hm.addr hc hl) ?_; rintro _ H1 ⟨j, hj1, hj2, rfl, hbj, hx1⟩; have hbm : H1.box H.next = some [m.row c] := (by rw [hx1.box _ (by simp)]; simp [DImage.row]); have hnj : ¬ j = H.next := (by simp at hj1; omega); have hn1 := hx1.next; simp at hn1 hj1; have hxs : H.Ext H1 := (AS.Ext.bump (.setBox (Nat.le_refl _) (.refl _))).trans hx1)
  | (refine callR (encodeIs _ c m hm.typed.ncells hm.typed.ncodes hm.typed.njobs hm.sizes hm.addr) ?_; rw [hB, hE]; rintro _ Hz ⟨rfl, hz⟩; subst Hz)
  | (refine callR (decodeT _ j (encFile m) hbj hj2 hlen hD) ?_; rw [hR]; rintro _ H2 ⟨xrow, rfl, him, hx2⟩; have hi0 := him; obtain ⟨p1, p2, p3, rfl, l1, l2, l3⟩ := hi0; have k1 := l1.okCells; have k2 := l2.okCells; have k3 := l3.okCells; have c1 := l1.cells; have c2 := l2.cells; have c3 := l3.cells; have a1 := l1.atomic; have a2 := l2.atomic; have a3 := l3.atomic; have hn2 := hx2.next; have hbj2 : H2.box j = some ((encFile m).map brow) := (hx2.box _ hj2).trans hbj; have hnj2 : ¬ j = H2.next := (by omega))
  | (refine callR (decodeF _ j (encFile m) (by simp [hbj2, hnj2]) (by simp; omega) hlen hD) ?_; rw [hR]; rintro _ Hz ⟨rfl, hz⟩; subst Hz)
  | (refine callR (sameOwn _ _ _ c _ m st.img hsm) ?_; rintro _ Hz ⟨rfl, hz⟩; subst Hz)
  | (refine callR (rEncode _ c m hm hc hl) ?_; rintro _ Hz ⟨rfl, hz⟩; subst Hz)
  | (refine callR (sameImageP _ 1 c m m hsm) ?_; rw [decide_eq_true rfl]; rintro _ Hz ⟨rfl, hz⟩; subst Hz)
  | (refine callR (eqBytes _ _ _ (encFile m) (encFile m) hlen) ?_; rw [decide_eq_true rfl]; rintro _ Hz ⟨rfl, hz⟩; subst Hz)
  | (refine callR (awakeIs _) ?_; rintro _ Hz ⟨rfl, hz⟩; subst Hz)
  | (refine eitherK.raw ?_; simp [*])
  | (refine appLoop hL hnl (by omega) (by simp) ?_; intro pn H5 he hpc hpo hpa; have hux : H5.box up = some [[ps m.name, p1, p2, p3]] := (he.box up (by omega) (pl_ne hL (Nat.le_refl _))).trans hbx3; have hu2 : H5.box id2 = some rows2 := exact_grow hL he (by omega) (by decide) id2 rows2 hid2.1 hid2.2 hb2 hne2 hr2; have hcl := he.color)
  | refine T_dr (id := 27) (fun i => i = up ∨ i = id2) [14] (.free 0 (.free 1 (.free 2 (.free 3 (.free 4 (.free 5 (.free 6 (.free 7 (.free 8 (.free 9 (.sole 10 (.sole 11 (.free 12 (.free 13 (.sole 14 .done))))))))))))))) mix ?_
  | refine Gs.mk (fun g => ?_) (fun g => ?_) <;> (try simp only [nm] at g) <;> try (exfalso; omega)
  | refine Gr.mk (fun g => ?_) (fun g => ?_) <;> (try simp only [nm] at g) <;> try (exfalso; omega)
  | (refine Run.of ?_; simp (maxSteps := 1000000) (disch := first | omega | assumption | (simp; done) | fail) [*, DImage.row, wrap_i64, Nat.add_assoc, idx28, idx22M, idx23M, idx24M, idx45M, idx53M, splice])
 all_goals (try (refine Kx.mk ?_; refine owes_one (.inr rfl) hwf rfl ?_ ?_ ?_ ?_ <;> first | exact st.ext | (simp [*]; done) | skip))
 all_goals first | (refine Kt_loop x) | skip
 all_goals (try (refine Kx.mk ?_; refine owes_one (.inr rfl) hwf rfl ?_ ?_ ?_ ?_ <;> first | exact st.ext | (simp [*]; done) | skip))
 refine T_lp (fun k F H' => ∃ q : Nat, k = nc - q ∧ q ≤ nc ∧ F 1 = .ptr H.next 1 0 0 ∧ F 5 = PV.sl cc 1 ((encFile m).map brow) ∧ F 7 = .ptr up 1 0 0 ∧ F 9 = .ptr (up + 1) 1 0 0 ∧ F 124 = pi m.jobs.length ∧ F 125 = pi i ∧ F 16 = pi i ∧ F 134 = pi nc ∧ F 135 = pi q ∧ H'.box id3 = some rows3 ∧ Sh lo up H' pc 1 nc ∧ X H lo up H.next up (up + 1) c m p1 p2 p3 m.codes.length H') (nc) ?_ ?_
 exact ⟨0, by omega, by omega, by simp [*], by simp [*], by simp [*], by simp [*], by simp [*], by simp [*], by simp [*], by simp [*], by simp [*], hb3, hsc, st⟩
 rintro k F H1 ⟨q, rfl, hq, g1, g5, g7, g9, g124, g125, g16, g134, g135, hb3, hsc, st⟩
 have hbm3 := st.bm
 have hbx3 := st.bx
 have hby3 := st.by'
 rcases Nat.lt_or_ge q nc with hlt2 | hge2
 all_goals (try (have hge := hsc.get (by assumption); obtain ⟨id4, rows4, r4, e4, hid4, hb4, hn4, hne4, hr4, hg4, hrl4⟩ := hge; have hg5 : ∀ h : q < rows4.length, rows4[q]'h = r4 := fun h => get_opt hg4 h))
 repeat' first
  | refine T_seq ?_
  | refine T_rgn ?_
  | refine T_cd ?_
  | refine T_sk ?_
  | refine T_rt ?_
  | refine T_block ?_
  | refine T_ex ?_
  | refine Kt_then ?_
  | refine Kt_block ?_
  | refine Kr_then ?_
  | refine Kr_block ?_
  | refine Kr_loop ?_
  | refine Ke_here ?_
  | refine Ke_then ?_
  | refine Ke_loop ?_
  | refine Ke_block ?_
  | refine Hid.mk ?_
  | (refine callR (encodeO _ c m hm.typed.ncells hm.typed.ncodes hm.typed.njobs hm.sizes hm.addr hc hl) ?_; rintro _ H1 ⟨j, hj1, hj2, rfl, hbj, hx1⟩; have hbm : H1.box H.next = some [m.row c] := (by rw [hx1.box _ (by simp)]; simp [DImage.row]); have hnj : ¬ j = H.next := (by simp at hj1; omega); have hn1 := hx1.next; simp at hn1 hj1; have hxs : H.Ext H1 := (AS.Ext.bump (.setBox (Nat.le_refl _) (.refl _))).trans hx1)
  | (refine callR (encodeIs _ c m hm.typed.ncells hm.typed.ncodes hm.typed.njobs hm.sizes hm.addr) ?_; rw [hB, hE]; rintro _ Hz ⟨rfl, hz⟩; subst Hz)
  | (refine callR (decodeT _ j (encFile m) hbj hj2 hlen hD) ?_; rw [hR]; rintro _ H2 ⟨xrow, rfl, him, hx2⟩; have hi0 := him; obtain ⟨p1, p2, p3, rfl, l1, l2, l3⟩ := hi0; have k1 := l1.okCells; have k2 := l2.okCells; have k3 := l3.okCells; have c1 := l1.cells; have c2 := l2.cells; have c3 := l3.cells; have a1 := l1.atomic; have a2 := l2.atomic; have a3 := l3.atomic; have hn2 := hx2.next; have hbj2 : H2.box j = some ((encFile m).map brow) := (hx2.box _ hj2).trans hbj; have hnj2 : ¬ j = H2.next := (by omega))
  | (refine callR (decodeF _ j (encFile m) (by simp [hbj2, hnj2]) (by simp; omega) hlen hD) ?_; rw [hR]; rintro _ Hz ⟨rfl, hz⟩; subst Hz)
  | (refine callR (sameOwn _ _ _ c _ m st.img hsm) ?_; rintro _ Hz ⟨rfl, hz⟩; subst Hz)
  | (refine callR (rEncode _ c m hm hc hl) ?_; rintro _ Hz ⟨rfl, hz⟩; subst Hz)
  | (refine callR (sameImageP _ 1 c m m hsm) ?_; rw [decide_eq_true rfl]; rintro _ Hz ⟨rfl, hz⟩; subst Hz)
  | (refine callR (eqBytes _ _ _ (encFile m) (encFile m) hlen) ?_; rw [decide_eq_true rfl]; rintro _ Hz ⟨rfl, hz⟩; subst Hz)
  | (refine callR (awakeIs _) ?_; rintro _ Hz ⟨rfl, hz⟩; subst Hz)
  | (refine eitherK.raw ?_; simp [*])
  | (refine appLoop hL hnl (by omega) (by simp) ?_; intro pn H5 he hpc hpo hpa; have hux : H5.box up = some [[ps m.name, p1, p2, p3]] := (he.box up (by omega) (pl_ne hL (Nat.le_refl _))).trans hbx3; have hu2 : H5.box id2 = some rows2 := exact_grow hL he (by omega) (by decide) id2 rows2 hid2.1 hid2.2 hb2 hne2 hr2; have hcl := he.color)
  | refine T_dr (id := 27) (fun i => i = up ∨ i = id2) [14] (.free 0 (.free 1 (.free 2 (.free 3 (.free 4 (.free 5 (.free 6 (.free 7 (.free 8 (.free 9 (.sole 10 (.sole 11 (.free 12 (.free 13 (.sole 14 .done))))))))))))))) mix ?_
  | refine Gs.mk (fun g => ?_) (fun g => ?_) <;> (try simp only [nm] at g) <;> try (exfalso; omega)
  | refine Gr.mk (fun g => ?_) (fun g => ?_) <;> (try simp only [nm] at g) <;> try (exfalso; omega)
  | (refine Run.of ?_; simp (maxSteps := 1000000) (disch := first | omega | assumption | (simp; done) | fail) [*, DImage.row, wrap_i64, Nat.add_assoc, idx28, idx22M, idx23M, idx24M, idx45M, idx53M, splice])
 all_goals (try (refine Kx.mk ?_; refine owes_one (.inr rfl) hwf rfl ?_ ?_ ?_ ?_ <;> first | exact st.ext | (simp [*]; done) | skip))
 all_goals first | (refine Kt_loop ⟨_, ?_, q + 1, rfl, by omega, by simp [*], by simp [*], by simp [*], by simp [*], by simp [*], by simp [*], by simp [*], by simp [*], by simp [*], exact_set hb4 hne4 hr4 (by decide) id3 rows3 hid3.1 hid3.2 hb3 hne3 hr3, hsc.write hb4 hne4 hr4 (by simp) (set_shape hr4 (by first | (simp [*]; done) | (simp; omega))), st.write hid4 hb4 hne4 hr4 (by simp) (set_shape hr4 (by first | (simp [*]; done) | (simp; omega))) (by decide) (by decide) (by decide)⟩ <;> omega) | (refine Kt_loop ⟨_, ?_, i + 1, rfl, by omega, by simp [*], by simp [*], by simp [*], by simp [*], by simp [*], by simp [*], st⟩ <;> omega) | skip
 all_goals trace_state
theorem ownErr (H : AS) (c : Nat) (m : DImage) (hm : m.In) (hE : ¬ encE m = 0) : ACalls Tryz.prog 5 [.agg (m.row c)] H fun q H' => q = pb true ∧ H' = H := by
 refine ACalls_intro Tryz.func5 rfl (by kernel_rfl) (by simp) fun hwf hbel => ?_
 repeat' first
  | refine T_seq ?_
  | refine T_rgn ?_
  | refine T_cd ?_
  | refine T_sk ?_
  | refine T_rt ?_
  | refine T_block ?_
  | refine T_ex ?_
  | refine Kt_then ?_
  | refine Kt_block ?_
  | refine Kr_then ?_
  | refine Kr_block ?_
  | refine Ke_here ?_
  | refine Ke_then ?_
  | refine Hid.mk ?_
  | (refine callR (encodeIs _ c m hm.typed.ncells hm.typed.ncodes hm.typed.njobs hm.sizes hm.addr) ?_; rintro _ Hz ⟨rfl, hz⟩; subst Hz)
  | (refine callR (awakeIs _) ?_; rintro _ Hz ⟨rfl, hz⟩; subst Hz)
  | refine Gs.mk (fun g => ?_) (fun g => ?_) <;> (try simp only [nm] at g)
  | refine Gr.mk (fun g => ?_) (fun g => ?_) <;> (try simp only [nm] at g)
  | (refine Run.of ?_; simp (maxSteps := 1000000) (disch := first | omega | assumption | (simp; done) | fail) [*, DImage.row])
 all_goals (refine Kx.mk ?_; refine owes_one (.inr rfl) hwf rfl ?_ ?_ ?_ ?_ <;> (try simp))
theorem lawOwn (H : AS) (c : Nat) (m : DImage) (hm : m.In) (hsm : m.Small) : ACalls Tryz.prog 5 [.agg (m.row c)] H fun q H' => q = pb true ∧ H' = H := by
 by_cases hE : encE m = 0
 exact ownOk H c m hm hsm hE
 exact ownErr H c m hm hE
end
section
variable {H : Type} {enc : TypeId × Value → H} {W : World} {c : Nat}
theorem wf_int {k : IntKind} {n : Int} (h : (Lit.int k n).wf = true) : k.min ≤ n ∧ n ≤ k.max := by
 simpa [Lit.wf] using h
theorem rU8 : Reads enc Tryz.prog W c 39 (fun n : Int => [.val (.int .u8 n)]) ok8 := (reads_int Tryz.underlying39).map id (fun _ _ => rfl) fun n h => by
 obtain ⟨h1, h2⟩ := wf_int h
 have e1 : IntKind.u8.min = 0 := by decide
 have e2 : IntKind.u8.max = 255 := by decide
 unfold ok8; simp only [id]; omega
theorem rU64 : Reads enc Tryz.prog W c 40 (fun n : Int => [.val (.int .u64 n)]) okU64 := (reads_int Tryz.underlying40).map id (fun _ _ => rfl) fun n h => by
 obtain ⟨h1, h2⟩ := wf_int h
 have e1 : IntKind.u64.min = 0 := by decide
 have e2 : IntKind.u64.max = 18446744073709551615 := by decide
 unfold okU64; simp only [id]; omega
theorem rInt : Reads enc Tryz.prog W c 3 irow ok64 := (reads_int Tryz.underlying3).map id (fun _ _ => rfl) fun n h => by
 obtain ⟨h1, h2⟩ := wf_int h
 have e1 : IntKind.i64.min = -9223372036854775808 := by decide
 have e2 : IntKind.i64.max = 9223372036854775807 := by decide
 unfold ok64; simp only [id]; omega
theorem rBool : Reads enc Tryz.prog W c 4 (fun b : Bool => [pb b]) (fun _ => True) := reads_bool Tryz.underlying4
theorem rStr : Reads enc Tryz.prog W c 9 (fun s : ByteArray => [ps s]) (fun s => s.size ≤ 281474976710656) := (reads_string Tryz.underlying9).map id (fun _ _ => rfl) fun s h => by
 have : reachBytes ≤ 281474976710656 := by decide
 simp only [id]; omega
theorem okText_of {s : ByteArray} (h : s.size ≤ 281474976710656) : okText s := by unfold okText; omega
theorem rVal : Reads enc Tryz.prog W c 42 DVal.row DVal.Ok := by
 refine Reads.map (reads_struct Tryz.underlying42 (by kernel_rfl) (readsF_cons (n := 1) rfl (by kernel_rfl) (rU8) (readsF_cons (n := 1) rfl (by kernel_rfl) (rU64) (readsF_cons (n := 1) rfl (by kernel_rfl) (rStr) (readsF_nil))))) (fun p => ⟨p.1, p.2.1, p.2.2.1⟩) (fun a _ => rfl) (fun a h => ⟨h.1, h.2.1, okText_of h.2.2.1⟩)
theorem dCell : Reads enc Tryz.prog W c 44 DCell.row (fun x => x.Typed ∧ x.addr.size ≤ 281474976710656) := by
 refine Reads.map (reads_struct Tryz.underlying44 (by kernel_rfl) (readsF_cons (n := 1) rfl (by kernel_rfl) (rU8) (readsF_cons (n := 1) rfl (by kernel_rfl) (rBool) (readsF_cons (n := 1) rfl (by kernel_rfl) (rInt) (readsF_cons (n := 1) rfl (by kernel_rfl) (rInt) (readsF_cons (n := 1) rfl (by kernel_rfl) (rInt) (readsF_cons (n := 3) rfl (by kernel_rfl) (rVal) (readsF_cons (n := 1) rfl (by kernel_rfl) (rBool) (readsF_cons (n := 1) rfl (by kernel_rfl) (rInt) (readsF_cons (n := 1) rfl (by kernel_rfl) (rStr) (readsF_nil))))))))))) (fun p => ⟨p.1, p.2.1, p.2.2.1, p.2.2.2.1, p.2.2.2.2.1, p.2.2.2.2.2.1, p.2.2.2.2.2.2.1, p.2.2.2.2.2.2.2.1, p.2.2.2.2.2.2.2.2.1⟩) (fun a _ => rfl)
  (fun a h => ⟨⟨h.1, h.2.2.1, h.2.2.2.1, h.2.2.2.2.1, h.2.2.2.2.2.1, h.2.2.2.2.2.2.2.1, okText_of h.2.2.2.2.2.2.2.2.1⟩, h.2.2.2.2.2.2.2.2.1⟩)
theorem rOp : Reads enc Tryz.prog W c 50 DOp.row DOp.Ok := by
 refine Reads.map (reads_struct Tryz.underlying50 (by kernel_rfl) (readsF_cons (n := 1) rfl (by kernel_rfl) (rInt) (readsF_cons (n := 1) rfl (by kernel_rfl) (rInt) (readsF_cons (n := 1) rfl (by kernel_rfl) (rInt) (readsF_cons (n := 1) rfl (by kernel_rfl) (rInt) (readsF_cons (n := 1) rfl (by kernel_rfl) (rInt) (readsF_cons (n := 1) rfl (by kernel_rfl) (rInt) (readsF_cons (n := 1) rfl (by kernel_rfl) (rInt) (readsF_cons (n := 3) rfl (by kernel_rfl) (rVal) (readsF_nil)))))))))) (fun p => ⟨p.1, p.2.1, p.2.2.1, p.2.2.2.1, p.2.2.2.2.1, p.2.2.2.2.2.1, p.2.2.2.2.2.2.1, p.2.2.2.2.2.2.2.1⟩) (fun a _ => rfl)
  (fun a h => ⟨h.1, h.2.1, h.2.2.1, h.2.2.2.1, h.2.2.2.2.1, h.2.2.2.2.2.1, h.2.2.2.2.2.2.1, h.2.2.2.2.2.2.2.1⟩)
theorem rLoop : Reads enc Tryz.prog W c 52 DLoop.row DLoop.Ok := by
 refine Reads.map (reads_struct Tryz.underlying52 (by kernel_rfl) (readsF_cons (n := 1) rfl (by kernel_rfl) (rInt) (readsF_cons (n := 1) rfl (by kernel_rfl) (rInt) (readsF_cons (n := 1) rfl (by kernel_rfl) (rInt) (readsF_nil))))) (fun p => ⟨p.1, p.2.1, p.2.2.1⟩) (fun a _ => rfl) (fun a h => ⟨h.1, h.2.1, h.2.2.1⟩)
theorem by_44 : Tryz.prog.bytesOf 44 = 96 := by kernel_rfl
theorem by_50 : Tryz.prog.bytesOf 50 = 88 := by kernel_rfl
theorem by_52 : Tryz.prog.bytesOf 52 = 24 := by kernel_rfl
theorem by_48 : Tryz.prog.bytesOf 48 = 104 := by kernel_rfl
theorem by_55 : Tryz.prog.bytesOf 55 = 96 := by kernel_rfl
theorem by_3 : Tryz.prog.bytesOf 3 = 8 := by kernel_rfl
theorem reach_lt : reachBytes ≤ 2 ^ 47 := by decide
theorem dFlat : Reads enc Tryz.prog W c 48 (DFlat.row c) (fun f => f.Ok ∧ f.Small) := by
 refine Reads.map (reads_struct Tryz.underlying48 (by kernel_rfl) (readsF_cons (n := 1) rfl (by kernel_rfl) (rStr) (readsF_cons (n := 1) rfl (by kernel_rfl) (rInt) (readsF_cons (n := 1) rfl (by kernel_rfl) (rInt) (readsF_cons (n := 1) rfl (by kernel_rfl) (rInt) (readsF_cons (n := 1) rfl (by kernel_rfl) (rInt) (readsF_cons (n := 1) rfl (by kernel_rfl) (rInt) (readsF_cons (n := 1) rfl (by kernel_rfl) (reads_slice Tryz.underlying45 (by kernel_rfl : Tryz.prog.cellsOf 50 = 10) (by decide) rOp) (readsF_cons (n := 1) rfl (by kernel_rfl) (reads_slice Tryz.underlying46 (by kernel_rfl : Tryz.prog.cellsOf 52 = 3) (by decide) rLoop) (readsF_nil)))))))))) (fun p => ⟨p.1, p.2.1, p.2.2.1, p.2.2.2.1, p.2.2.2.2.1, p.2.2.2.2.2.1, p.2.2.2.2.2.2.1, p.2.2.2.2.2.2.2.1⟩) (fun a _ => rfl) (fun a h => ?_)
 have h1 := by_50
 have h2 := h.2.2.2.2.2.2.1.1
 have h3 := by_52
 have h4 := h.2.2.2.2.2.2.2.1.1
 have h5 := reach_lt
 rw [h1] at h2
 rw [h3] at h4
 exact ⟨⟨okText_of h.1, h.2.1, h.2.2.1, h.2.2.2.1, h.2.2.2.2.1, h.2.2.2.2.2.1, by simp only [] at h2 ⊢; omega, h.2.2.2.2.2.2.1.2, by simp only [] at h4 ⊢; omega, h.2.2.2.2.2.2.2.1.2⟩, by simp only [] at h2 ⊢; omega, by simp only [] at h4 ⊢; omega⟩
theorem dJob : Reads enc Tryz.prog W c 55 (DJob.row c) (fun j => j.Ok ∧ j.Small) := by
 refine Reads.map (reads_struct Tryz.underlying55 (by kernel_rfl) (readsF_cons (n := 1) rfl (by kernel_rfl) (rStr) (readsF_cons (n := 1) rfl (by kernel_rfl) (rInt) (readsF_cons (n := 1) rfl (by kernel_rfl) (rInt) (readsF_cons (n := 1) rfl (by kernel_rfl) (rInt) (readsF_cons (n := 1) rfl (by kernel_rfl) (reads_slice Tryz.underlying53 (by kernel_rfl : Tryz.prog.cellsOf 3 = 1) (by decide) rInt) (readsF_cons (n := 1) rfl (by kernel_rfl) (reads_slice Tryz.underlying53 (by kernel_rfl : Tryz.prog.cellsOf 3 = 1) (by decide) rInt) (readsF_cons (n := 1) rfl (by kernel_rfl) (rInt) (readsF_nil))))))))) (fun p => ⟨p.1, p.2.1, p.2.2.1, p.2.2.2.1, p.2.2.2.2.1, p.2.2.2.2.2.1, p.2.2.2.2.2.2.1⟩) (fun a _ => rfl) (fun a h => ?_)
 have h1 := by_3
 have h2 := h.2.2.2.2.1.1
 have h4 := h.2.2.2.2.2.1.1
 have h5 := reach_lt
 rw [h1] at h2 h4
 exact ⟨⟨okText_of h.1, h.2.1, h.2.2.1, h.2.2.2.1, by simp only [] at h2 ⊢; omega, h.2.2.2.2.1.2, by simp only [] at h4 ⊢; omega, h.2.2.2.2.2.1.2, h.2.2.2.2.2.2.1⟩, by simp only [] at h2 ⊢; omega, by simp only [] at h4 ⊢; omega⟩
theorem rImage : Reads enc Tryz.prog W c 26 (DImage.row c) (fun m => m.In ∧ m.Small) := by
 refine Reads.map (reads_struct Tryz.underlying26 (by kernel_rfl) (readsF_cons (n := 1) rfl (by kernel_rfl) (rStr) (readsF_cons (n := 1) rfl (by kernel_rfl) (reads_slice Tryz.underlying22 (by kernel_rfl : Tryz.prog.cellsOf 44 = 11) (by decide) dCell) (readsF_cons (n := 1) rfl (by kernel_rfl) (reads_slice Tryz.underlying23 (by kernel_rfl : Tryz.prog.cellsOf 48 = 8) (by decide) dFlat) (readsF_cons (n := 1) rfl (by kernel_rfl) (reads_slice Tryz.underlying24 (by kernel_rfl : Tryz.prog.cellsOf 55 = 7) (by decide) dJob) (readsF_nil)))))) (fun p => ⟨p.1, p.2.1, p.2.2.1, p.2.2.2.1⟩) (fun a _ => rfl) (fun a h => ?_)
 obtain ⟨n, ⟨l1, cs⟩, ⟨l2, fs⟩, ⟨l3, js⟩, _⟩ := h
 have h5 := reach_lt
 rw [by_44] at l1
 rw [by_48] at l2
 rw [by_55] at l3
 refine ⟨⟨⟨okText_of n, by simp only [] at l1 ⊢; omega, fun x hx => (cs x hx).1, by simp only [] at l2 ⊢; omega, fun f hf => (fs f hf).1, by simp only [] at l3 ⊢; omega, fun j hj => (js j hj).1⟩, fun f hf => ?_, fun x hx => (cs x hx).2⟩, ?_⟩
 have := (fs f hf).2
 exact ⟨by have := this.1; omega, by have := this.2; omega⟩
 exact ⟨by simp only [] at l1 ⊢; omega, by simp only [] at l2 ⊢; omega, by simp only [] at l3 ⊢; omega, fun f hf => (fs f hf).2, fun j hj => (js j hj).2⟩
end
end Go.Abs
namespace Go.Proofs.YtllgmpejmagndaaGreatDoor
open Go.ChangeShapes Go.WideShapes Go.ChangeAt Go.RowKit Go.Abs
set_option maxRecDepth 100000
theorem own_ : ownKnob Tryz.prog.godebug = none := by kernel_rfl
theorem laid_ : laidOutB Tryz.prog = true := by kernel_rfl
theorem readable26 : Tryz.prog.readableRec 26 = true := by kernel_rfl
def laids : List (String × DataW Unit) := Rows.imageTurnedRow.laid
theorem door_met (os : Os) (args : Array Value) : laidMetH Tryz.prog laids ((World.doorLaid Tryz.prog 2000 os).forCall (fun _ _ => 0) ⟨#[], args, []⟩).memory :=
 laidMetH_of_parts3 (fuel := 8) (laidMet_of_run' 8 (by kernel_rfl) (by kernel_rfl)) (by kernel_rfl) (by kernel_rfl)
theorem gPow : Tryz.prog.globalNamed "internal/strconv.uint64pow10" = some 4 := by kernel_rfl
theorem gSyn : Tryz.prog.globalNamed "strconv.ErrSyntax" = some 2 := by kernel_rfl
theorem gRan : Tryz.prog.globalNamed "strconv.ErrRange" = some 3 := by kernel_rfl
theorem cells_at {W : World} {n : String} {g : Nat} {cs : Array Value} (hg : Tryz.prog.globalNamed n = some g) (h : W.var? Tryz.prog n = some cs) : ∃ t fz, W.heap[g]? = some (.cells cs t fz) := by
 unfold World.var? at h
 rw [hg] at h
 simp only [Option.bind_some] at h
 split at h
 rename_i cs' t fz e
 cases h
 exact ⟨t, fz, e⟩
 cases h
theorem err_of {W : World} {g t : Nat} {n : String} {cs : Array Value} {fuel : Nat} {x : DataW Unit × List MemPlace} (hg : Tryz.prog.globalNamed n = some g) (hv : W.var? Tryz.prog n = some cs) (hti : ∃ ms, Tryz.prog.underlying t = some (.interface ms))
  (h : DataW.trod (fun _ => ()) Tryz.prog W 0 (fun _ => true) false fuel t cs.toList = some x) : errCell W g := by
 obtain ⟨ty, fz, hh⟩ := cells_at hg hv
 obtain ⟨ms, ht⟩ := hti
 cases fuel with
 | zero => simp [DataW.trod] at h
 | succ m =>
  unfold DataW.trod at h
  rw [ht] at h
  obtain ⟨l⟩ := cs
  match l, hh, h with
  | [], _, h => simp at h
  | a :: b :: r, _, h => simp at h
  | [v], hh, h =>
   have hv : v = .nilIface ∨ ∃ te pe, v = .iface te pe := by
    cases v <;> first | exact .inl rfl | exact .inr ⟨_, _, rfl⟩ | simp at h
   exact ⟨v, _, ty, fz, hh, rfl, hv⟩
theorem amb {W : World} (h : laidMetH Tryz.prog laids W) : ambient W := by
 rw [MakeChecks.laidMetH_plain _ _ _ (by kernel_rfl)] at h
 obtain ⟨ps, ⟨g0, t0, cs0, f0, p0, q0, hg0, ht0, hv0, hd0, ⟨g1, t1, cs1, f1, p1, q1, hg1, ht1, hv1, hd1, ⟨g2, t2, cs2, f2, p2, q2, hg2, ht2, hv2, hd2, ⟨g3, t3, cs3, f3, p3, q3, hg3, ht3, hv3, hd3, ⟨g4, t4, cs4, f4, p4, q4, hg4, ht4, hv4, hd4, _, _⟩, _⟩, _⟩, _⟩, _⟩, _, _⟩ := h
 obtain rfl := Option.some.inj (gPow.symm.trans hg2)
 obtain rfl := Option.some.inj (gRan.symm.trans hg3)
 obtain rfl := Option.some.inj (gSyn.symm.trans hg4)
 obtain rfl := Option.some.inj ((show (Tryz.prog.globals[4]?).map (·.type) = some 191 by kernel_rfl).symm.trans ht2)
 obtain rfl := Option.some.inj ((show (Tryz.prog.globals[3]?).map (·.type) = some 150 by kernel_rfl).symm.trans ht3)
 obtain rfl := Option.some.inj ((show (Tryz.prog.globals[2]?).map (·.type) = some 150 by kernel_rfl).symm.trans ht4)
 have hcs := Lib.cells_of_tab (k := .u64) (zs := Lib.pow10Tab) Tryz.underlying191 Tryz.underlying40 (by kernel_rfl) (by kernel_rfl) hd2
 obtain ⟨t, fz, hh⟩ := cells_at gPow hv2
 refine ⟨⟨t, fz, ?_⟩, err_of gSyn hv4 ⟨_, Tryz.underlying150⟩ hd4, err_of gRan hv3 ⟨_, Tryz.underlying150⟩ hd3⟩
 rw [hh]
 congr 2
 exact Array.ext' hcs
theorem rep_agg {G : Gh} {l : List PV} {cs : Array Value} (h : RepRow G l cs.toList) : Rep G (.agg l) (.agg cs) := by
 obtain ⟨h1, h2, h3⟩ := h
 exact .agg (by simpa using h1) (fun j v hv => h3 j v (by simpa using hv)) (fun j p v hp hv => h2 j p v hp (by simpa using hv))
theorem opened {H : Type} {enc : TypeId × Value → H} {W : World} {base : Nat} {v : Value} {d : DataW H} {p : List MemPlace} (hok : Value.okWide Tryz.prog W .any base 26 v)
  (h : DataW.Trod enc Tryz.prog W 0 (fun _ => true) true 26 v d p) (hw : ∀ n ∈ d.weights Tryz.prog 26, n ≤ reachBytes) : ∃ m : DImage, Rep (Gh.start W 0) (.agg (m.row 0)) v ∧ m.In ∧ m.Small := by
 unfold Value.okWide at hok
 rw [Tryz.underlying26] at hok
 obtain ⟨cs, rfl, -⟩ := hok
 obtain ⟨fuel, hf⟩ := h
 obtain ⟨m, h1, h2, h3⟩ := rImage (c := 0) fuel _ _ hf hw
 exact ⟨m, rep_agg h1, h2, h3⟩
theorem trod_true {H : Type} (enc : TypeId × Value → H) (w : World) (base : Nat) (sp : Nat → Bool) (hd : Bool) : DataW.Trod enc Tryz.prog w base sp hd 4 (.bool true) (.lit (.bool true)) [] := ⟨1, by simp [DataW.trod, Tryz.underlying4, Value.cells]⟩
end Go.Proofs.YtllgmpejmagndaaGreatDoor
