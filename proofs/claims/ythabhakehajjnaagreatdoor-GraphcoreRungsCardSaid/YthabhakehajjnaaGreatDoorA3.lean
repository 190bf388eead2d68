/- Texts of ours, merged: the abstract layer, the walks over the loaded functions, the plain laws. -/
import Derived.Test.YthabhakehajjnaaGreatDoorA2
import Derived.Lib.CutLaws
import Derived.Test.YthabhakehajjnaaGreatDoorProg
namespace Go.Abs
open Go.Proofs
set_option autoImplicit false
set_option linter.all false
set_option maxRecDepth 100000
set_option maxHeartbeats 40000000
set_option linter.unusedSimpArgs false
/-- All that the world holds, read only; what was not frozen has colour d. -/
def Gh.all (G : Gh) (w : World) (d : Nat) : Gh :=
  { view := fun _ _ => none, mview := fun _ => none, ro := fun b => match G.ro b with | some x => some x | none => (w.heap[b]?).map fun o => (d, o), next := G.next, w0 := G.w0, ex := G.ex }
def AS.bare (H : AS) (k : Nat) : AS := ⟨fun _ => none, fun _ => none, H.next, k⟩
@[simp] theorem bare_next (H : AS) (k : Nat) : (H.bare k).next = H.next := rfl
@[simp] theorem bare_color (H : AS) (k : Nat) : (H.bare k).color = k := rfl
@[simp] theorem bare_box (H : AS) (k i : Nat) : (H.bare k).box i = none := rfl
@[simp] theorem bare_mp (H : AS) (k i : Nat) : (H.bare k).mp i = none := rfl
section
variable {P : Program} {G : Gh} {H : AS} {w : World} {d : Nat}
theorem all_some {b : Nat} {x : Nat × Obj} (h : G.ro b = some x) : (G.all w d).ro b = some x := by simp [Gh.all, h]
theorem all_none {b : Nat} (h : G.ro b = none) : (G.all w d).ro b = (w.heap[b]?).map fun o => (d, o) := by simp [Gh.all, h]
theorem rel_all (h : Rel G H w) (k : Nat) (hd : d < 2) : Rel (G.all w d) (H.bare k) w := by
  refine ⟨h.next, fun b c o e => ?_, ?_, ?_, ?_, ?_, ?_, ?_, ?_, h.os, h.out, h.tape, ⟨h.base.1, fun b o e => ?_⟩, ⟨fun b c x e h2 => ?_, fun b x e => ?_⟩⟩
  · cases hg : G.ro b with
    | some x => rw [all_some hg] at e; cases e; exact h.ro b c o hg
    | none =>
      rw [all_none hg] at e
      cases hh : w.heap[b]? with
      | none => rw [hh] at e; cases e
      | some o' => rw [hh] at e; simp at e; rw [e.2]
  · intro id rows e; simp at e
  · intro i j ri rj b s c s' c' e; simp at e
  · intro id es e; simp at e
  · intro i j ri rj b e; simp at e
  · intro id rows vl x e; simp at e
  · intro id vl x e; simp [Gh.all] at e
  · intro id x e; simp [Gh.all] at e
  · obtain ⟨c, hc⟩ := h.base.2 b o e
    exact ⟨c, all_some hc⟩
  · cases hg : G.ro b with
    | some y => rw [all_some hg] at e; cases e; exact h.exok.all b _ _ hg h2
    | none =>
      rw [all_none hg] at e
      cases hh : w.heap[b]? with
      | none => rw [hh] at e; cases e
      | some o' => rw [hh] at e; simp at e; omega
  · obtain ⟨y, hy⟩ := h.exok.ro b x e
    exact ⟨y, all_some hy⟩
/-- No box, no map of one's own in it. -/
inductive Pl : PV → Prop
  | val (v : Value) : Pl (.val v)
  | junk : Pl .junk
  | rptr {c : Nat} {cells : List PV} : (∀ p ∈ cells, Pl p) → Pl (.rptr c cells)
  | slice {c sz : Nat} {rows : List (List PV)} : (∀ r ∈ rows, ∀ p ∈ r, Pl p) → Pl (.slice c sz rows)
  | func {f : FuncId} {caps : List PV} : (∀ p ∈ caps, Pl p) → Pl (.func f caps)
  | iface {t : TypeId} {p : PV} : Pl p → Pl (.iface t p)
  | agg {cells : List PV} : (∀ p ∈ cells, Pl p) → Pl (.agg cells)
  | tuple {cells : List PV} : (∀ p ∈ cells, Pl p) → Pl (.tuple cells)
theorem cell_all {c b o : Nat} {v : Value} (e : G.cell c b o = some v) : (G.all w d).cell c b o = some v := by
  unfold Gh.cell at e ⊢
  cases hg : G.ro b with
  | none => rw [hg] at e; simp at e
  | some x => rw [all_some hg]; rw [hg] at e; exact e
theorem rep_pl {p : PV} {v : Value} (r : Rep G p v) : Pl p → Rep (G.all w d) p v := by
  induction r with
  | val v => intro _; exact .val v
  | junk v => intro _; exact .junk v
  | ptr e => intro h; cases h
  | rptr vs h1 h2 _ ih => intro h; cases h with | rptr h => exact .rptr vs (fun j p hp => cell_all (h1 j p hp)) h2 (fun j p hp => ih j p hp (h p (List.mem_of_getElem? hp)))
  | slice vs hx h0 h1 h2 h3 _ ih => intro h; cases h with | slice h => exact .slice vs hx h0 h1 (fun i r j p hr hp => cell_all (h2 i r j p hr hp)) h3 (fun i r j p hr hp => ih i r j p hr hp (h r (List.mem_of_getElem? hr) p (List.mem_of_getElem? hp)))
  | nilSlice => intro _; exact .nilSlice
  | emptySlice => intro _; exact .emptySlice
  | msl e => intro h; cases h
  | func h1 _ ih => intro h; cases h with | func h => exact .func h1 (fun j p v hp hv => ih j p v hp hv (h p (List.mem_of_getElem? hp)))
  | bound h1 _ ih => intro h; cases h
  | iface _ ih => intro h; cases h with | iface h => exact .iface (ih h)
  | agg h1 h2 _ ih => intro h; cases h with | agg h => exact .agg h1 h2 (fun j p v hp hv => ih j p v hp hv (h p (List.mem_of_getElem? hp)))
  | tuple h1 _ ih => intro h; cases h with | tuple h => exact .tuple h1 (fun j p v hp hv => ih j p v hp hv (h p (List.mem_of_getElem? hp)))
  | map e => intro h; cases h
/-- What a value is when all memory is frozen. -/
inductive Fz (H : AS) (d : Nat) : PV → PV → Prop
  | same {p : PV} : Pl p → Fz H d p p
  | nil {sz : Nat} : Fz H d .nil (PV.sl d sz [])
  | msl {id len sz : Nat} {rows rows' : List (List PV)} : H.box id = some rows → rows.length = len → rows'.length = rows.length →
      (∀ (i : Nat) (r r' : List PV), rows[i]? = some r → rows'[i]? = some r' → r'.length = r.length) →
      (∀ (i : Nat) (r r' : List PV) (j : Nat) (p p' : PV), rows[i]? = some r → rows'[i]? = some r' → r[j]? = some p → r'[j]? = some p' → Fz H d p p') → Fz H d (.msl id len sz) (PV.sl d sz rows')
  | agg {cs cs' : List PV} : cs'.length = cs.length → (∀ (j : Nat) (p p' : PV), cs[j]? = some p → cs'[j]? = some p' → Fz H d p p') → Fz H d (.agg cs) (.agg cs')
theorem get_of_lt {α : Type} {l : List α} {i : Nat} (h : i < l.length) : ∃ a, l[i]? = some a := ⟨l[i], List.getElem?_eq_getElem h⟩
theorem fz_rep (hr : Rel G H w) (hd : d < 2) {p p' : PV} (h : Fz H d p p') : ∀ {v : Value}, Rep G p v → Rep (G.all w d) p' v := by
  induction h with
  | same h => intro v r; exact rep_pl r h
  | nil => intro v r; cases r; exact .nilSlice
  | @msl id len sz rows rows' hb hl hl' hlen _ ih =>
    intro v r
    cases r with
    | msl hv =>
      rename_i b cap
      obtain ⟨b', s', cap', vs, el, fz, hv', hh, hfz, hcap, hlc, hrows, hcells, h1c, hro⟩ := hr.box id rows hb
      rw [hl, hv] at hv'
      obtain ⟨rfl, rfl, rfl⟩ : b = b' ∧ sz = s' ∧ cap = cap' := by simpa using hv'
      cases hz : rows' with
      | nil =>
        have h0 : len = 0 := by rw [← hl, ← hl', hz]; rfl
        subst h0
        exact .emptySlice
      | cons r0 rs0 =>
        rw [← hz, ← hl, ← hl']
        have hcell : ∀ o x, vs[o]? = some x → (G.all w d).cell d b o = some x := fun o x hx => by
          unfold Gh.cell
          rw [all_none hro, hh]
          simpa using hx
        rw [show PV.sl d sz rows' = .slice d sz rows' by rw [hz]; rfl]
        have orig : ∀ (i : Nat) (r' : List PV), rows'[i]? = some r' → ∃ r, rows[i]? = some r ∧ r'.length = r.length := fun i r' hr' => by
          obtain ⟨r, hr2⟩ := get_of_lt (l := rows) (i := i) (by rw [← hl']; exact (List.getElem?_eq_some_iff.1 hr').1)
          exact ⟨r, hr2, hlen i r r' hr2 hr'⟩
        have at_ : ∀ (i : Nat) (r' : List PV) (j : Nat) (p' : PV), rows'[i]? = some r' → r'[j]? = some p' → ∃ x, vs[i * sz + j]? = some x ∧ Rep (G.all w d) p' x := fun i r' j p' hr' hp' => by
          obtain ⟨r, hr2, hle⟩ := orig i r' hr'
          obtain ⟨p, hp⟩ := get_of_lt (l := r) (i := j) (by rw [← hle]; exact (List.getElem?_eq_some_iff.1 hp').1)
          obtain ⟨x, hx, hrep⟩ := hcells i r j p hr2 hp
          exact ⟨x, hx, ih i r r' j p p' hr2 hr' hp hp' hrep⟩
        refine .slice (fun i j => (vs[i * sz + j]?).getD undef) (fun h => absurd h (by omega)) (by rw [hl']; exact hlc) (fun i r' hr' => ?_) (fun i r' j p' hr' hp' => ?_) (fun i r' j p' hr' hp' => ?_) (fun i r' j p' hr' hp' => ?_)
        · obtain ⟨r, hr2, hle⟩ := orig i r' hr'
          rw [hle]; exact hrows r (List.mem_of_getElem? hr2)
        · obtain ⟨x, hx, _⟩ := at_ i r' j p' hr' hp'
          rw [Nat.zero_add]
          have := hcell _ _ hx
          simp only [hx, Option.getD_some]; exact this
        · obtain ⟨x, hx, _⟩ := at_ i r' j p' hr' hp'
          simp only [hx, Option.getD_some]; exact h1c _ _ hx
        · obtain ⟨x, hx, hrep⟩ := at_ i r' j p' hr' hp'
          simp only [hx, Option.getD_some]; exact hrep
  | @agg cs cs' hl _ ih =>
    intro v r
    cases r with
    | agg h1 h2 h3 =>
      refine .agg (by rw [hl]; exact h1) h2 fun j p' v hp' hv => ?_
      obtain ⟨p, hp⟩ := get_of_lt (l := cs) (i := j) (by rw [← hl]; exact (List.getElem?_eq_some_iff.1 hp').1)
      exact ih j p p' hp hp' (h3 j p v hp hv)
def FzAll (H : AS) (d : Nat) : List PV → List PV → Prop
  | [], [] => True
  | p :: ps, q :: qs => Fz H d p q ∧ FzAll H d ps qs
  | _, _ => False
theorem fzAll_rep (hr : Rel G H w) (hd : d < 2) : ∀ {ps ps' : List PV} {vs : List Value}, FzAll H d ps ps' → RepAll G ps vs → RepAll (G.all w d) ps' vs
  | [], [], [], _, _ => trivial
  | p :: ps, q :: qs, v :: vs, h, h' => ⟨fz_rep hr hd h.1 h'.1, fzAll_rep hr hd h.2 h'.2⟩
  | [], _ :: _, _, h, _ => h.elim
  | _ :: _, [], _, h, _ => h.elim
  | [], [], _ :: _, _, h => h.elim
  | _ :: _, _ :: _, [], _, h => h.elim
/-- Memory that was there, and what a call made. -/
def AS.join (H H' : AS) : AS := ⟨fun i => if i < H.next then H.box i else H'.box i, fun i => if i < H.next then H.mp i else H'.mp i, H'.next, H.color⟩
theorem join_ext {H H' : AS} (h : H.next ≤ H'.next) : H.Ext (H.join H') := ⟨h, fun i hi => by simp [AS.join, hi], fun i hi => by simp [AS.join, hi], rfl⟩
theorem join_new {H H' : AS} {i : Nat} (h : H.next ≤ i) : (H.join H').box i = H'.box i := by simp [AS.join, Nat.not_lt.2 h]
@[simp] theorem join_next (H H' : AS) : (H.join H').next = H'.next := rfl
@[simp] theorem join_color (H H' : AS) : (H.join H').color = H.color := rfl
/-- Nothing of what was there (numbers below n), nothing of colour d. -/
inductive Clean (n d : Nat) : PV → Prop
  | val (v : Value) : Clean n d (.val v)
  | junk : Clean n d .junk
  | ptr {id vl row off : Nat} : n ≤ id → Clean n d (.ptr id vl row off)
  | rptr {c : Nat} {cells : List PV} : c ≠ d → (∀ p ∈ cells, Clean n d p) → Clean n d (.rptr c cells)
  | slice {c sz : Nat} {rows : List (List PV)} : c ≠ d → (∀ r ∈ rows, ∀ p ∈ r, Clean n d p) → Clean n d (.slice c sz rows)
  | empty {c sz : Nat} : Clean n d (.slice c sz [])
  | msl {id len sz : Nat} : n ≤ id → Clean n d (.msl id len sz)
  | iface {t : TypeId} {p : PV} : Clean n d p → Clean n d (.iface t p)
  | agg {cells : List PV} : (∀ p ∈ cells, Clean n d p) → Clean n d (.agg cells)
  | tuple {cells : List PV} : (∀ p ∈ cells, Clean n d p) → Clean n d (.tuple cells)
theorem clean_sl {n d c sz : Nat} {rows : List (List PV)} (hc : c ≠ d) (h : ∀ r ∈ rows, ∀ p ∈ r, Clean n d p) : Clean n d (PV.sl c sz rows) := by
  cases rows with
  | nil => exact .empty
  | cons r rs => exact .slice hc h
def Gh.join (G G' : Gh) (w : World) (n : Nat) : Gh :=
  { view := fun id vl => if id < n then G.view id vl else G'.view id vl, mview := fun id => if id < n then G.mview id else G'.mview id,
    ro := fun b => match G.ro b with | some x => some x | none => if b < w.heap.size then none else G'.ro b, next := G'.next, w0 := G.w0, ex := G'.ex }
theorem rep_join {G' : Gh} {w : World} (hle : (G.all w d).le G') {n : Nat} {p : PV} {v : Value} (r : Rep G' p v) : Clean n d p → Rep (G.join G' w n) p v := by
  have hc : ∀ {c b o : Nat} {v : Value}, c ≠ d → G'.cell c b o = some v → (G.join G' w n).cell c b o = some v := by
    intro c b o v hcd e
    unfold Gh.cell at e ⊢
    cases hg : G.ro b with
    | some x =>
      have h1 := hle.ro b x (all_some hg)
      rw [h1] at e
      simp only [Gh.join, hg]
      exact e
    | none =>
      by_cases hb : b < w.heap.size
      · have h1 := hle.ro b (d, w.heap[b]) (by rw [all_none hg]; simp [hb])
        rw [h1] at e
        cases ho : w.heap[b] with
        | cells vs t fz =>
          rw [ho] at e
          simp at e
          exact absurd e.1.symm hcd
        | _ => rw [ho] at e; simp at e
      · simp only [Gh.join, hg, if_neg hb]
        exact e
  induction r with
  | val v => intro _; exact .val v
  | junk v => intro _; exact .junk v
  | ptr e => intro h; cases h with | ptr h => exact .ptr (by simp [Gh.join, Nat.not_lt.2 h]; exact e)
  | rptr vs h1 h2 _ ih => intro h; cases h with | rptr hcd h => exact .rptr vs (fun j p hp => hc hcd (h1 j p hp)) h2 (fun j p hp => ih j p hp (h p (List.mem_of_getElem? hp)))
  | slice vs hx h0 h1 h2 h3 _ ih =>
    intro h
    cases h with
    | slice hcd h => exact .slice vs hx h0 h1 (fun i r j p hr hp => hc hcd (h2 i r j p hr hp)) h3 (fun i r j p hr hp => ih i r j p hr hp (h r (List.mem_of_getElem? hr) p (List.mem_of_getElem? hp)))
    | empty => exact .emptySlice
  | nilSlice => intro _; exact .nilSlice
  | emptySlice => intro _; exact .emptySlice
  | msl e => intro h; cases h with | msl h => exact .msl (by simp [Gh.join, Nat.not_lt.2 h]; exact e)
  | func h1 _ ih => intro h; cases h
  | bound h1 _ ih => intro h; cases h
  | iface _ ih => intro h; cases h with | iface h => exact .iface (ih h)
  | agg h1 h2 _ ih => intro h; cases h with | agg h => exact .agg h1 h2 (fun j p v hp hv => ih j p v hp hv (h p (List.mem_of_getElem? hp)))
  | tuple h1 _ ih => intro h; cases h with | tuple h => exact .tuple h1 (fun j p v hp hv => ih j p v hp hv (h p (List.mem_of_getElem? hp)))
  | map e => intro h; cases h
structure CleanM (n d : Nat) (H' : AS) : Prop where
  box : ∀ (id : Nat) (rows : List (List PV)), n ≤ id → H'.box id = some rows → ∀ r ∈ rows, ∀ p ∈ r, Clean n d p
  mp : ∀ (id : Nat), n ≤ id → H'.mp id = none
theorem rel_join {G' : Gh} {H' : AS} {w' : World} (h : Rel G H w) (hle : (G.all w d).le G') (h' : Rel G' H' w') (hcl : CleanM H.next d H') : G.le (G.join G' w H.next) ∧ Rel (G.join G' w H.next) (H.join H') w' := by
  have hold : ∀ b, b < w.heap.size → w'.heap[b]? = w.heap[b]? ∧ ∃ c, G'.ro b = some (c, w.heap[b]!) := fun b hb => by
    have e : w.heap[b]? = some w.heap[b]! := by simp [hb]
    cases hg : G.ro b with
    | some x =>
      have h1 := hle.ro b x (all_some hg)
      have h2 := h.ro b x.1 x.2 hg
      rw [e] at h2
      have h3 : x.2 = w.heap[b]! := (Option.some.inj h2).symm
      refine ⟨by rw [h'.ro b x.1 x.2 h1, e, h3], x.1, ?_⟩
      rw [h1, ← h3]
    | none =>
      have h1 := hle.ro b (d, w.heap[b]!) (by rw [all_none hg, e]; rfl)
      exact ⟨by rw [h'.ro b _ _ h1, e], d, h1⟩
  have hnx : H.next ≤ H'.next := by
    have := hle.next
    rw [← h.next, ← h'.next]; exact this
  have hJ : G.le (G.join G' w H.next) := by
    refine ⟨fun b x e => by simp [Gh.join, e], fun id vl x e => ?_, fun id x e => ?_, by show G.next ≤ G'.next; exact hle.next, rfl, fun b x e => hle.ex b x e, fun b y e => hle.exn b y (all_some e)⟩
    · have := h.dom id vl x e; rw [h.next] at this; simp [Gh.join, this, e]
    · have := h.mdom id x e; rw [h.next] at this; simp [Gh.join, this, e]
  have ltOf : ∀ {b : Nat} {o : Obj}, w.heap[b]? = some o → b < w.heap.size := fun e => (Array.getElem?_eq_some_iff.1 e).1
  have viewOld : ∀ {id vl : Nat}, id < H.next → (G.join G' w H.next).view id vl = G.view id vl := fun hi => by simp [Gh.join, hi]
  have viewNew : ∀ {id vl : Nat}, ¬ id < H.next → (G.join G' w H.next).view id vl = G'.view id vl := fun hi => by simp [Gh.join, hi]
  have mviewOld : ∀ {id : Nat}, id < H.next → (G.join G' w H.next).mview id = G.mview id := fun hi => by simp [Gh.join, hi]
  have hwf := h.wf
  have boxOld : ∀ {id : Nat} {rows : List (List PV)}, id < H.next → (H.join H').box id = some rows → H.box id = some rows := fun hi e => by simpa [AS.join, hi] using e
  have boxNew : ∀ {id : Nat} {rows : List (List PV)}, ¬ id < H.next → (H.join H').box id = some rows → H'.box id = some rows := fun hi e => by simpa [AS.join, hi] using e
  have mpOld : ∀ {id : Nat} {es : List (Value × PV)}, (H.join H').mp id = some es → id < H.next ∧ H.mp id = some es := fun {id es} e => by
    by_cases hi : id < H.next
    · exact ⟨hi, by simpa [AS.join, hi] using e⟩
    · simp [AS.join, hi] at e
      rw [hcl.mp id (Nat.not_lt.1 hi)] at e; cases e
  -- the block of a box that was there is frozen in G', that of a new one is not
  have apart : ∀ {i j : Nat} {ri rj : List (List PV)} {b s c s' c' : Nat}, H.box i = some ri → H'.box j = some rj → G.view i ri.length = some (b, s, c) → G'.view j rj.length = some (b, s', c') → False := by
    intro i j ri rj b s c s' c' hi hj e1 e2
    obtain ⟨b1, _, _, _, _, _, hv1, hh1, _⟩ := h.box i ri hi
    rw [e1] at hv1
    obtain ⟨rfl, -, -⟩ : b = b1 ∧ _ ∧ _ := by simpa using hv1
    obtain ⟨b2, _, _, _, _, _, hv2, _, _, _, _, _, _, _, hro⟩ := h'.box j rj hj
    rw [e2] at hv2
    obtain ⟨rfl, -, -⟩ : b = b2 ∧ _ ∧ _ := by simpa using hv2
    obtain ⟨c, hc⟩ := (hold b (ltOf hh1)).2
    rw [hro] at hc; cases hc
  refine ⟨hJ, ?_⟩
  refine ⟨h'.next, fun b c o e => ?_, fun id rows e => ?_, fun i j ri rj b s c s' c' hi hj e1 e2 => ?_, fun id es e => ?_, fun i j ri rj b hi hj e1 e2 => ?_, fun id rows vl x hb e => ?_, fun id vl x e => ?_, fun id x e => ?_, ?_, ?_, ?_, ?_, ?_⟩
  · cases hg : G.ro b with
    | some x =>
      simp only [Gh.join, hg] at e
      cases e
      exact h'.ro b c o (hle.ro b _ (all_some hg))
    | none =>
      simp only [Gh.join, hg] at e
      split at e
      · cases e
      · exact h'.ro b c o e
  · by_cases hi : id < H.next
    · obtain ⟨b, sz, cap, vs, elem, fz, hv, hh, h2, h3, h4, h5, hc, h6, h7⟩ := h.box id rows (boxOld hi e)
      refine ⟨b, sz, cap, vs, elem, fz, by rw [viewOld hi]; exact hv, by rw [(hold b (ltOf hh)).1]; exact hh, h2, h3, h4, h5, fun i r j p hr hp => ?_, h6, ?_⟩
      · obtain ⟨v, e1, e2⟩ := hc i r j p hr hp
        exact ⟨v, e1, e2.mono hJ⟩
      · simp only [Gh.join, h7, if_pos (ltOf hh)]
    · have hb := boxNew hi e
      obtain ⟨b, sz, cap, vs, elem, fz, hv, hh, h2, h3, h4, h5, hc, h6, h7⟩ := h'.box id rows hb
      refine ⟨b, sz, cap, vs, elem, fz, by rw [viewNew hi]; exact hv, hh, h2, h3, h4, h5, fun i r j p hr hp => ?_, h6, ?_⟩
      · obtain ⟨v, e1, e2⟩ := hc i r j p hr hp
        exact ⟨v, e1, rep_join hle e2 (hcl.box id rows (Nat.not_lt.1 hi) hb r (List.mem_of_getElem? hr) p (List.mem_of_getElem? hp))⟩
      · cases hg : G.ro b with
        | some x => have := hle.ro b x (all_some hg); rw [h7] at this; cases this
        | none => simp only [Gh.join, hg]; split <;> first | rfl | exact h7
  · by_cases h1 : i < H.next
    · by_cases h2 : j < H.next
      · rw [viewOld h1] at e1
        rw [viewOld h2] at e2
        exact h.inj i j ri rj b s c s' c' (boxOld h1 hi) (boxOld h2 hj) e1 e2
      · rw [viewOld h1] at e1
        rw [viewNew h2] at e2
        exact (apart (boxOld h1 hi) (boxNew h2 hj) e1 e2).elim
    · by_cases h2 : j < H.next
      · rw [viewNew h1] at e1
        rw [viewOld h2] at e2
        exact (apart (boxOld h2 hj) (boxNew h1 hi) e2 e1).elim
      · rw [viewNew h1] at e1
        rw [viewNew h2] at e2
        exact h'.inj i j ri rj b s c s' c' (boxNew h1 hi) (boxNew h2 hj) e1 e2
  · obtain ⟨hi, hm⟩ := mpOld e
    obtain ⟨b, ents, clock, hv, hh, hs, hc, hro⟩ := h.mp id es hm
    refine ⟨b, ents, clock, by rw [mviewOld hi]; exact hv, by rw [(hold b (ltOf hh)).1]; exact hh, hs, fun i e m hi hj => ⟨(hc i e m hi hj).1, (hc i e m hi hj).2.mono hJ⟩, ?_⟩
    simp only [Gh.join, hro, if_pos (ltOf hh)]
  · obtain ⟨h1, hm1⟩ := mpOld hi
    obtain ⟨h2, hm2⟩ := mpOld hj
    rw [mviewOld h1] at e1
    rw [mviewOld h2] at e2
    exact h.minj i j ri rj b hm1 hm2 e1 e2
  · by_cases hi : id < H.next
    · rw [viewOld hi] at e; exact h.vmax id rows vl x (boxOld hi hb) e
    · rw [viewNew hi] at e; exact h'.vmax id rows vl x (boxNew hi hb) e
  · show id < G'.next
    by_cases hi : id < H.next
    · have := hle.next; rw [h'.next]; omega
    · rw [viewNew hi] at e; exact h'.dom id vl x e
  · show id < G'.next
    by_cases hi : id < H.next
    · rw [h'.next]; omega
    · simp only [Gh.join, if_neg hi] at e; exact h'.mdom id x e
  · show w'.os = G.w0.os
    rw [h'.os, hle.w0]; rfl
  · show w'.output = G.w0.output
    rw [h'.out, hle.w0]; rfl
  · show w'.tape = G.w0.tape
    rw [h'.tape, hle.w0]; rfl
  · exact h.base.mono hJ
  · refine ⟨fun b c x e h2 => ?_, fun b x e => ?_⟩
    · show ∃ len sz cap vs el fz, G'.ex b = _ ∧ _
      cases hg : G.ro b with
      | some y =>
        simp only [Gh.join, hg] at e; cases e
        obtain ⟨len, sz, cap, vs, el, fz, g1, g2⟩ := h.exok.all b _ _ hg h2
        exact ⟨len, sz, cap, vs, el, fz, hle.ex b _ g1, g2⟩
      | none =>
        simp only [Gh.join, hg] at e
        split at e
        · cases e
        · exact h'.exok.all b _ _ e h2
    · have e : G'.ex b = some x := e
      cases hg : G.ro b with
      | some y => exact ⟨y, by simp [Gh.join, hg]⟩
      | none =>
        obtain ⟨y, hy⟩ := h'.exok.ro b x e
        refine ⟨y, ?_⟩
        by_cases hb : b < w.heap.size
        · have h1 := hle.exn b (d, w.heap[b]) (by rw [all_none hg]; simp [hb])
          rw [h1] at e
          obtain ⟨z, hz⟩ := h.exok.ro b x e
          rw [hg] at hz; cases hz
        · simp [Gh.join, hg, hb, hy]
/-- A call, told over frozen memory. -/
theorem ACalls.thaw {f : FuncId} {args args' : List PV} {k0 : PV → AS → Prop} (d k : Nat) (hf : FzAll H d args args') (hc : ACalls P f args' (H.bare k) k0)
    (hk : ∀ q H', k0 q H' → Clean H.next d q ∧ CleanM H.next d H') (hd : d < 2 := by first | decide | omega) : ACalls P f args H fun q H'' => ∃ H', k0 q H' ∧ H'' = H.join H' ∧ H.next ≤ H'.next := by
  rcases hc with hc | ⟨fn, e, h1, h2, h3, h4, h5, hc⟩
  · refine .inl ⟨hc.1, fun G w vs hr ha => ?_⟩
    refine (hc.2 (G.all w d) w vs (rel_all hr k hd) (fzAll_rep hr hd hf ha)).mono fun _ _ ⟨v, G', q, H', e, l, r, p, hq⟩ => ?_
    obtain ⟨c1, c2⟩ := hk q H' hq
    obtain ⟨j1, j2⟩ := rel_join hr l r c2
    refine ⟨v, _, q, H.join H', e, j1, j2, rep_join l p c1, H', hq, rfl, ?_⟩
    have := l.next
    rw [← hr.next, ← r.next]; exact this
  · refine .inr ⟨fn, e, h1, h2, h3, h4, h5, fun G w vs hr ha => ?_⟩
    obtain ⟨v, w', G', q, H', a, l, r, p, hq⟩ := hc (G.all w d) w vs (rel_all hr k hd) (fzAll_rep hr hd hf ha)
    obtain ⟨c1, c2⟩ := hk q H' hq
    obtain ⟨j1, j2⟩ := rel_join hr l r c2
    refine ⟨v, w', _, q, H.join H', a, j1, j2, rep_join l p c1, H', hq, rfl, ?_⟩
    have := l.next
    rw [← hr.next, ← r.next]; exact this
theorem Rel.less {H1 : AS} (h : Rel G H w) (hn : H1.next = H.next) (hb : ∀ id rows, H1.box id = some rows → H.box id = some rows) (hm : ∀ id es, H1.mp id = some es → H.mp id = some es) : Rel G H1 w :=
  ⟨h.next.trans hn.symm, h.ro, fun id rows e => h.box id rows (hb id rows e), fun i j ri rj b s c s' c' hi hj => h.inj i j ri rj b s c s' c' (hb _ _ hi) (hb _ _ hj), fun id es e => h.mp id es (hm id es e), fun i j ri rj b hi hj => h.minj i j ri rj b (hm _ _ hi) (hm _ _ hj), fun id rows vl x e => h.vmax id rows vl x (hb _ _ e), h.dom, h.mdom, h.os, h.out, h.tape, h.base, h.exok⟩
open Classical in
/-- What a call made, but for what speaks of what was there. -/
noncomputable def AS.cleaned (n d : Nat) (H : AS) : AS := ⟨fun i => match H.box i with
  | some rows => if ∀ r ∈ rows, ∀ p ∈ r, Clean n d p then some rows else none
  | none => none, fun _ => none, H.next, H.color⟩
@[simp] theorem cleaned_next (n d : Nat) (H : AS) : (H.cleaned n d).next = H.next := rfl
theorem cleaned_some {n d i : Nat} {H : AS} {rows : List (List PV)} (e : (H.cleaned n d).box i = some rows) : H.box i = some rows ∧ ∀ r ∈ rows, ∀ p ∈ r, Clean n d p := by
  unfold AS.cleaned at e
  dsimp only at e
  split at e
  · rename_i rows' e'
    split at e
    · rename_i h; cases e; exact ⟨e', h⟩
    · cases e
  · cases e
theorem cleaned_keep {n d i : Nat} {H : AS} {rows : List (List PV)} (e : H.box i = some rows) (h : ∀ r ∈ rows, ∀ p ∈ r, Clean n d p) : (H.cleaned n d).box i = some rows := by
  unfold AS.cleaned
  simp only [e]
  rw [if_pos h]
/-- A call, told over frozen memory; what is not clean is let go. -/
theorem ACalls.thawC {f : FuncId} {args args' : List PV} {k0 : PV → AS → Prop} (d k : Nat) (hf : FzAll H d args args') (hc : ACalls P f args' (H.bare k) k0)
    (hk : ∀ q H', k0 q H' → Clean H.next d q) (hd : d < 2 := by first | decide | omega) : ACalls P f args H fun q H'' => ∃ H', k0 q H' ∧ H'' = H.join (H'.cleaned H.next d) ∧ H.next ≤ H'.next ∧ WF H := by
  have cl : ∀ H' : AS, CleanM H.next d (H'.cleaned H.next d) := fun H' => ⟨fun id rows _ e => (cleaned_some e).2, fun id _ => rfl⟩
  have ls : ∀ {G' : Gh} {H' : AS} {w' : World}, Rel G' H' w' → Rel G' (H'.cleaned H.next d) w' := fun h => h.less rfl (fun id rows e => (cleaned_some e).1) (fun id es e => by cases e)
  rcases hc with hc | ⟨fn, e, h1, h2, h3, h4, h5, hc⟩
  · refine .inl ⟨hc.1, fun G w vs hr ha => ?_⟩
    refine (hc.2 (G.all w d) w vs (rel_all hr k hd) (fzAll_rep hr hd hf ha)).mono fun _ _ ⟨v, G', q, H', e, l, r, p, hq⟩ => ?_
    obtain ⟨j1, j2⟩ := rel_join hr l (ls r) (cl H')
    refine ⟨v, _, q, H.join (H'.cleaned H.next d), e, j1, j2, rep_join l p (hk q H' hq), H', hq, rfl, ?_, hr.wf⟩
    have := l.next
    rw [← hr.next, ← r.next]; exact this
  · refine .inr ⟨fn, e, h1, h2, h3, h4, h5, fun G w vs hr ha => ?_⟩
    obtain ⟨v, w', G', q, H', a, l, r, p, hq⟩ := hc (G.all w d) w vs (rel_all hr k hd) (fzAll_rep hr hd hf ha)
    obtain ⟨j1, j2⟩ := rel_join hr l (ls r) (cl H')
    refine ⟨v, w', _, q, H.join (H'.cleaned H.next d), a, j1, j2, rep_join l p (hk q H' hq), H', hq, rfl, ?_, hr.wf⟩
    have := l.next
    rw [← hr.next, ← r.next]; exact this
theorem join_bare (hwf : WF H) (k n d : Nat) : H.join ((H.bare k).cleaned n d) = H := by
  obtain ⟨bx, mp, nx, co⟩ := H
  simp only [AS.join, AS.bare, AS.cleaned, AS.mk.injEq, true_and, and_true]
  constructor
  · funext i
    split
    · rfl
    · rename_i hi
      cases e : bx i with
      | none => rfl
      | some rows => exact absurd (hwf.box i rows e).1 hi
  · funext i
    split
    · rfl
    · rename_i hi
      cases e : mp i with
      | none => rfl
      | some es => exact absurd (hwf.mp i es e).1 hi
/-- A pure function's call, told over frozen memory: all stays. -/
theorem ACalls.quiet {f : FuncId} {args args' : List PV} {X : PV → Prop} (d k : Nat) (hf : FzAll H d args args') (hc : ACalls P f args' (H.bare k) fun q H' => X q ∧ H' = H.bare k) (hX : ∀ q, X q → Clean H.next d q) (hd : d < 2 := by first | decide | omega) : ACalls P f args H fun q H' => X q ∧ H' = H := by
  refine (ACalls.thawC d k hf hc (fun q H' h => hX q h.1) hd).mono ?_
  rintro q H'' ⟨H', ⟨h1, h2⟩, h3, h4, hwf⟩
  refine ⟨h1, ?_⟩
  rw [h3, h2, join_bare hwf]
theorem ACalls.still {f : FuncId} {args args' : List PV} {v : Value} (d k : Nat) (hf : FzAll H d args args') (hc : ACalls P f args' (H.bare k) fun q H' => q = .val v ∧ H' = H.bare k) (hd : d < 2 := by first | decide | omega) : ACalls P f args H fun q H' => q = .val v ∧ H' = H :=
  ACalls.quiet d k hf hc (fun q h => h ▸ .val _) hd
end
section
variable {P : Program} {n b : Nat} {F : AF} {H : AS} {Q : Exit → AF → AS → Prop}
structure Jn (P : Program) (n b : Nat) (z : Code) (Q : Exit → AF → AS → Prop) (R : AF → AS → Prop) : Prop where
  run : ∀ F H, R F H → T P n b z F H Q
/-- What leads through a region and a condition behind it comes together. -/
theorem T_jr (id : Nat) (R : AF → AS → Prop) {ops : Array Oper} {d : Bool} {c : Operand} {x y z : Code} (h : T P n b (.seq (.region id ops d) (.cond c x y)) F H (thenK R Q)) (h' : Jn P n b z Q R) : T P n b (.seq (.seq (.region id ops d) (.cond c x y)) z) F H Q := T_mid R h h'.run
end
/-- A binding whose continuation simp does not look into. -/
def hbind {α β : Type} (x : Option α) [k : Kont (α → Option β)] : Option β := x.bind k.run
theorem hbind_some {α β : Type} (a : α) (k : α → Option β) : @hbind α β (some a) ⟨k⟩ = k a := _root_.id rfl
theorem wanted_at {ops : Array Oper} {F : AF} {d : Option Tmp} {op : Op} {ty : TypeId} {pos : String} {af : Array Edge} (j : Nat) (want : Bool) : aWanted ops F ⟨d, op, ty, pos, af, some (j, want)⟩ = @hbind _ _ (ops[j]?) ⟨fun o => @hbind _ _ o.dst ⟨fun t => wantOf (F t) want⟩⟩ := by
  rw [wanted_some]; unfold hbind; cases ops[j]? <;> rfl
section
variable {P : Program} {n b : Nat} {F : AF} {H : AS} {Q : Exit → AF → AS → Prop}
structure Ls (P : Program) (n b : Nat) (c : Code) (Q : Exit → AF → AS → Prop) (I : Nat → AF → AS → Prop) : Prop where
  run : ∀ k F H, I k F H → T P n b c F H (loopT I k Q)
theorem T_la (id : Nat) (I : Nat → AF → AS → Prop) (k : Nat) {ops : Array Oper} {d : Bool} {x y : Code} (h0 : I k F H) (hs : Ls P n b (.seq (.seq (.region id ops d) x) y) Q I) : T P n b (.loop (.seq (.seq (.region id ops d) x) y)) F H Q := T_lp I k h0 hs.run
theorem T_lb (id : Nat) (I : Nat → AF → AS → Prop) (k : Nat) {ops : Array Oper} {d : Bool} {y : Code} (h0 : I k F H) (hs : Ls P n b (.seq (.region id ops d) y) Q I) : T P n b (.loop (.seq (.region id ops d) y)) F H Q := T_lp I k h0 hs.run
end
abbrev pi (n : Int) : PV := .val (.int .i64 n)
abbrev ps (s : ByteArray) : PV := .val (.string s)
abbrev pb (b : Bool) : PV := .val (.bool b)
@[ext] structure DVal where
  kind : Int
  bits : Int
  text : ByteArray
  deriving DecidableEq
@[ext] structure DCell where
  kind : Int
  sub : Bool
  lo : Int
  hi : Int
  max : Int
  init : DVal
  keep : Bool
  dir : Int
  addr : ByteArray
  deriving DecidableEq
@[ext] structure DOp where
  code : Int
  a : Int
  b : Int
  c : Int
  d : Int
  lo : Int
  hi : Int
  value : DVal
  deriving DecidableEq
@[ext] structure DLoop where
  head : Int
  stop : Int
  times : Int
  deriving DecidableEq
@[ext] structure DFlat where
  name : ByteArray
  what : Int
  cells : Int
  base : Int
  regs : Int
  slots : Int
  ops : List DOp
  loops : List DLoop
  deriving DecidableEq
@[ext] structure DJob where
  name : ByteArray
  interval : Int
  single : Int
  priority : Int
  codes : List Int
  bases : List Int
  bound : Int
  deriving DecidableEq
@[ext] structure DImage where
  name : ByteArray
  cells : List DCell
  codes : List DFlat
  jobs : List DJob
  deriving DecidableEq
def DVal.row (v : DVal) : List PV := [.val (.int .u8 v.kind), .val (.int .u64 v.bits), ps v.text]
def DCell.row (x : DCell) : List PV := [.val (.int .u8 x.kind), pb x.sub, pi x.lo, pi x.hi, pi x.max, .val (.int .u8 x.init.kind), .val (.int .u64 x.init.bits), ps x.init.text, pb x.keep, pi x.dir, ps x.addr]
def DOp.row (x : DOp) : List PV := [pi x.code, pi x.a, pi x.b, pi x.c, pi x.d, pi x.lo, pi x.hi, .val (.int .u8 x.value.kind), .val (.int .u64 x.value.bits), ps x.value.text]
def DLoop.row (x : DLoop) : List PV := [pi x.head, pi x.stop, pi x.times]
def irow (n : Int) : List PV := [pi n]
def DFlat.row (c : Nat) (x : DFlat) : List PV := [ps x.name, pi x.what, pi x.cells, pi x.base, pi x.regs, pi x.slots, PV.sl c 10 (x.ops.map DOp.row), PV.sl c 3 (x.loops.map DLoop.row)]
def DJob.row (c : Nat) (x : DJob) : List PV := [ps x.name, pi x.interval, pi x.single, pi x.priority, PV.sl c 1 (x.codes.map irow), PV.sl c 1 (x.bases.map irow), pi x.bound]
def DImage.row (c : Nat) (x : DImage) : List PV := [ps x.name, PV.sl c 11 (x.cells.map DCell.row), PV.sl c 8 (x.codes.map (DFlat.row c)), PV.sl c 7 (x.jobs.map (DJob.row c))]
theorem int_bne (a b : Int) : (a != b) = !decide (a = b) := rfl
theorem int_beq (a b : Int) : (a == b) = decide (a = b) := rfl
theorem map_get {α : Type} {xs : List α} {f : α → List PV} {i : Nat} (h : i < xs.length) : (xs.map f)[i]? = some (f xs[i]) := by simp [h]
theorem nm : (∀ b : Bool, ((!b) = true) = (b = false)) ∧ (∀ b : Bool, ((!b) = false) = (b = true)) ∧ (∀ a b : Bool, ((a && b) = true) = (a = true ∧ b = true)) ∧ (∀ a b : Bool, ((a && b) = false) = (a = false ∨ b = false)) ∧ (∀ a b : Bool, ((a || b) = true) = (a = true ∨ b = true)) ∧ (∀ a b : Bool, ((a || b) = false) = (a = false ∧ b = false)) ∧ (∀ (p : Prop) [Decidable p], (decide p = true) = p) ∧ ∀ (p : Prop) [Decidable p], (decide p = false) = ¬ p := by
  refine ⟨by simp, by simp, by simp, by simp, by simp, by simp, ?_, ?_⟩ <;> intro p i <;> by_cases h : p <;> simp [h]
theorem nm0 : (∀ b : Bool, ((!b) = true) = (b = false)) ∧ (∀ b : Bool, ((!b) = false) = (b = true)) ∧ (∀ (p : Prop) [Decidable p], (decide p = true) = p) ∧ ∀ (p : Prop) [Decidable p], (decide p = false) = ¬ p := ⟨nm.1, nm.2.1, nm.2.2.2.2.2.2⟩
theorem kr : (∀ (K : AF → AS → Prop) (Q : Exit → AF → AS → Prop) (F : AF) (H : AS), thenK K Q .ret F H = Q .ret F H) ∧ (∀ (i : Nat) (Q : Exit → AF → AS → Prop) (F : AF) (H : AS), blockT i Q .ret F H = Q .ret F H) ∧ (∀ (I : Nat → AF → AS → Prop) (k : Nat) (Q : Exit → AF → AS → Prop) (F : AF) (H : AS), loopT I k Q .ret F H = Q .ret F H) ∧ ∀ (l : Nat) (J : AF → AS → Prop) (Q : Exit → AF → AS → Prop) (F : AF) (H : AS), jumpT l J Q .ret F H = Q .ret F H := ⟨fun _ _ _ _ => rfl, fun _ _ _ _ => rfl, fun _ _ _ _ _ => rfl, fun _ _ _ _ _ => rfl⟩
theorem kn : (∀ (K : AF → AS → Prop) (Q : Exit → AF → AS → Prop) (F : AF) (H : AS), thenK K Q .normal F H = K F H) ∧ (∀ (i : Nat) (Q : Exit → AF → AS → Prop) (F : AF) (H : AS), blockT i Q .normal F H = Q .normal F H) ∧ (∀ (I : Nat → AF → AS → Prop) (k : Nat) (Q : Exit → AF → AS → Prop) (F : AF) (H : AS), loopT I k Q .normal F H = ∃ k', k' < k ∧ I k' F H) ∧ ∀ (l : Nat) (J : AF → AS → Prop) (Q : Exit → AF → AS → Prop) (F : AF) (H : AS), jumpT l J Q .normal F H = Q .normal F H := ⟨fun _ _ _ _ => rfl, fun _ _ _ _ => rfl, fun _ _ _ _ _ => rfl, fun _ _ _ _ _ => rfl⟩
theorem ke : (∀ (K : AF → AS → Prop) (Q : Exit → AF → AS → Prop) (i : Nat) (F : AF) (H : AS), thenK K Q (.exit i) F H = Q (.exit i) F H) ∧ (∀ (i j : Nat) (Q : Exit → AF → AS → Prop) (F : AF) (H : AS), blockT i Q (.exit j) F H = if j = i then Q .normal F H else Q (.exit j) F H) ∧ ∀ (I : Nat → AF → AS → Prop) (k i : Nat) (Q : Exit → AF → AS → Prop) (F : AF) (H : AS), loopT I k Q (.exit i) F H = Q (.exit i) F H := ⟨fun _ _ _ _ _ => rfl, fun _ _ _ _ _ => rfl, fun _ _ _ _ _ _ => rfl⟩
attribute [simp ↓] put_at AF.ev_tmp AF.ev_int AF.ev_bool AF.ev_func AF.ev_string AF.ev_slice ex_cons ex_nil ex_guard ex_box ex_assign ex_alloc ex_load ex_store ex_call ex_unOp ex_move ex_fieldAddr ex_field ex_binOp ex_pick ex_convert ex_extract ex_len ex_build ex_nilCheck ex_index ex_indexAddr ex_slice ex_min ex_buildSlice ex_append ex_makeFunc ex_makeSlice wk_free wk_sole wk_done wanted_none wk_move wk_assign wk_pick wk_build wk_unOp wk_convert wk_slice wk_fieldAddr wk_field wk_indexAddr wk_index wk_extract wk_len wk_min wk_load wk_call wk_binOp wk_nilCheck wk_sliceToArrayPointer
end Go.Abs
namespace Go.Abs
set_option autoImplicit false
set_option linter.all false
/-- An element of a ladder. -/
inductive LEl where
  | mk (op pos : Int) (name : ByteArray) (br : List (List LEl))
namespace LEl
def op : LEl → Int | mk o _ _ _ => o
def pos : LEl → Int | mk _ a _ _ => a
def name : LEl → ByteArray | mk _ _ n _ => n
def br : LEl → List (List LEl) | mk _ _ _ b => b
mutual
def row (c : Nat) : LEl → List PV
  | mk o a n b => [pi o, pi a, ps n, PV.sl c 1 (rowsB c b)]
def rowsB (c : Nat) : List (List LEl) → List (List PV)
  | [] => []
  | b :: bs => [PV.sl c 4 (rowsE c b)] :: rowsB c bs
def rowsE (c : Nat) : List LEl → List (List PV)
  | [] => []
  | e :: es => row c e :: rowsE c es
end
theorem rowsE_eq (c : Nat) : ∀ l : List LEl, rowsE c l = l.map (row c)
  | [] => by simp [rowsE]
  | e :: es => by simp [rowsE, rowsE_eq c es]
def bRow (c : Nat) (b : List LEl) : List PV := [PV.sl c 4 (b.map (row c))]
theorem rowsB_eq (c : Nat) : ∀ l : List (List LEl), rowsB c l = l.map (bRow c)
  | [] => by simp [rowsB]
  | b :: bs => by simp [rowsB, rowsB_eq c bs, rowsE_eq, bRow]
theorem row_eq (c : Nat) (e : LEl) : e.row c = [pi e.op, pi e.pos, ps e.name, PV.sl c 1 (e.br.map (bRow c))] := by
  cases e with | mk o a n b => simp [row, rowsB_eq, op, pos, name, br]
mutual
/-- Elements in all. -/
def size : LEl → Nat
  | mk _ _ _ b => sizeB b + 1
def sizeB : List (List LEl) → Nat
  | [] => 0
  | b :: bs => sizeL b + sizeB bs + 1
def sizeL : List LEl → Nat
  | [] => 0
  | e :: es => size e + sizeL es
end
theorem size_eq (e : LEl) : e.size = sizeB e.br + 1 := by cases e; simp [size, br]
theorem sizeL_append (a b : List LEl) : sizeL (a ++ b) = sizeL a + sizeL b := by
  induction a with
  | nil => simp [sizeL]
  | cons x xs ih => simp [sizeL, ih]; omega
theorem sizeB_append (a b : List (List LEl)) : sizeB (a ++ b) = sizeB a + sizeB b := by
  induction a with
  | nil => simp [sizeB]
  | cons x xs ih => simp [sizeB, ih]; omega
theorem sizeL_get {l : List LEl} {i : Nat} (h : i < l.length) : (l[i]).size ≤ sizeL l := by
  induction l generalizing i with
  | nil => simp at h
  | cons x xs ih => cases i with
    | zero => simp [sizeL]
    | succ i => simp at h; have := ih h; simp [sizeL]; omega
theorem sizeB_get {l : List (List LEl)} {i : Nat} (h : i < l.length) : sizeL l[i] + 1 ≤ sizeB l := by
  induction l generalizing i with
  | nil => simp at h
  | cons x xs ih => cases i with
    | zero => simp [sizeB]
    | succ i => simp at h; have := ih h; simp [sizeB]; omega
theorem length_le_size (l : List LEl) : l.length ≤ sizeL l := by
  induction l with
  | nil => simp
  | cons x xs ih => simp [sizeL, size_eq]; omega
theorem lengthB_le (l : List (List LEl)) : l.length ≤ sizeB l := by
  induction l with
  | nil => simp
  | cons x xs ih => simp [sizeB]; omega
end LEl
end Go.Abs
namespace Go.Abs
set_option autoImplicit false
set_option linter.all false
abbrev k8 (n : Int) : PV := .val (.int .u8 n)
abbrev k64 (n : Int) : PV := .val (.int .u64 n)
def nRow (s : ByteArray) : List PV := [ps s]
inductive LEx where
  | mk (op pos : Int) (name field : ByteArray) (vk vb : Int) (vt : ByteArray) (kids : List LEx) (names : List ByteArray)
namespace LEx
mutual
def row (c : Nat) : LEx → List PV
  | mk o a n f vk vb vt k ns => [pi o, pi a, ps n, ps f, k8 vk, k64 vb, ps vt, PV.sl c 14 (rowsK c k), PV.sl c 1 (ns.map nRow), k8 0, pi 0, pi 0, pi 0, pi 0]
def rowsK (c : Nat) : List LEx → List (List PV)
  | [] => []
  | e :: es => row c e :: rowsK c es
end
theorem rowsK_eq (c : Nat) : ∀ l : List LEx, rowsK c l = l.map (row c)
  | [] => by simp [rowsK]
  | e :: es => by simp [rowsK, rowsK_eq c es]
theorem row_mk (c : Nat) (o a : Int) (n f : ByteArray) (vk vb : Int) (vt : ByteArray) (k : List LEx) (ns : List ByteArray) : (mk o a n f vk vb vt k ns).row c = [pi o, pi a, ps n, ps f, k8 vk, k64 vb, ps vt, PV.sl c 14 (k.map (row c)), PV.sl c 1 (ns.map nRow), k8 0, pi 0, pi 0, pi 0, pi 0] := by
  rw [row, rowsK_eq]
end LEx
inductive LSt where
  | mk (op pos : Int) (name : ByteArray) (exprs : List LEx) (names : List ByteArray) (body : List LSt)
namespace LSt
mutual
def row (c : Nat) : LSt → List PV
  | mk o a n x ns b => [pi o, pi a, ps n, pi 0, PV.sl c 14 (x.map (LEx.row c)), PV.sl c 1 (ns.map nRow), PV.sl c 14 [], PV.sl c 1 [], PV.sl c 2 [], PV.sl c 14 (rowsB c b), PV.sl c 14 [], k8 0, pi 0, pi 0]
def rowsB (c : Nat) : List LSt → List (List PV)
  | [] => []
  | e :: es => row c e :: rowsB c es
end
theorem rowsB_eq (c : Nat) : ∀ l : List LSt, rowsB c l = l.map (row c)
  | [] => by simp [rowsB]
  | e :: es => by simp [rowsB, rowsB_eq c es]
theorem row_mk (c : Nat) (o a : Int) (n : ByteArray) (x : List LEx) (ns : List ByteArray) (b : List LSt) : (mk o a n x ns b).row c = [pi o, pi a, ps n, pi 0, PV.sl c 14 (x.map (LEx.row c)), PV.sl c 1 (ns.map nRow), .nilS, .nilS, .nilS, PV.sl c 14 (b.map (row c)), .nilS, k8 0, pi 0, pi 0] := by
  rw [row, rowsB_eq]; rfl
end LSt
structure LVr where
  name : ByteArray
  cls : Int
  kind : Int
def LVr.row (v : LVr) : List PV := [ps v.name, pi 0, pi v.cls, k8 v.kind, pb false, pi 0, pi 0, pi 0, pb false, pi 0, pi 0, ps ⟨#[]⟩, .nilS, pb false, pb false, ps ⟨#[]⟩]
structure LRg where
  pos : Int
  con : List LEl
  coils : List LEl
def LRg.row (c : Nat) (r : LRg) : List PV := [pi r.pos, PV.sl c 4 (r.con.map (LEl.row c)), PV.sl c 4 (r.coils.map (LEl.row c))]
/-- A name in an expression's place. -/
abbrev eE : ByteArray := ⟨#[]⟩
def xNam (s : ByteArray) (at' : Int) : LEx := .mk 18 at' s eE 0 0 eE [] []
def cut46 (s : ByteArray) : List UInt8 × List UInt8 × Bool := Lib.cut s.data.toList [46]
def xPlc (s : ByteArray) (at' : Int) : LEx := if (cut46 s).2.2 = true then .mk 20 at' ⟨(cut46 s).1.toArray⟩ ⟨(cut46 s).2.1.toArray⟩ 0 0 eE [] [] else xNam s at'
def LEx.at' : LEx → Int | .mk _ a _ _ _ _ _ _ _ => a
def xNot (x : LEx) : LEx := .mk 16 x.at' eE eE 0 0 eE [x] []
def xTwo (op at' : Int) (a b : LEx) : LEx := .mk op at' eE eE 0 0 eE [a, b] []
def xTru (b : Bool) (at' : Int) : LEx := .mk 17 at' eE eE 1 (if b = true then 1 else 0) eE [] []
def sSet (at' : Int) (a e : LEx) : LSt := .mk 1 at' eE [a, e] [] []
def sIf (at' : Int) (e : LEx) (b : List LSt) : LSt := .mk 2 at' eE [e] [] b
def hid (p : List UInt8) (n : Nat) : ByteArray := ⟨(p ++ Lib.itoa n).toArray⟩
def hE (n : Nat) : ByteArray := hid [95, 69] n
def hP (n : Nat) : ByteArray := hid [95, 80] n
def hR (n : Nat) : ByteArray := hid [95, 82] n
namespace LEl
mutual
/-- Edges, in their order. -/
def edg : LEl → List LEl
  | mk o a n b => if o = 3 ∨ o = 4 then [mk o a n b] else if o = 5 then edgB b else []
def edgB : List (List LEl) → List LEl
  | [] => []
  | b :: bs => edgL b ++ edgB bs
def edgL : List LEl → List LEl
  | [] => []
  | e :: es => edg e ++ edgL es
end
theorem edg_eq (e : LEl) : e.edg = if e.op = 3 ∨ e.op = 4 then [e] else if e.op = 5 then edgB e.br else [] := by cases e; rw [edg]; rfl
theorem edgL_append (a b : List LEl) : edgL (a ++ b) = edgL a ++ edgL b := by
  induction a with
  | nil => simp [edgL]
  | cons x xs ih => simp [edgL, ih]
theorem edgB_append (a b : List (List LEl)) : edgB (a ++ b) = edgB a ++ edgB b := by
  induction a with
  | nil => simp [edgB]
  | cons x xs ih => simp [edgB, ih]
mutual
/-- A contact's expression, the next edge being number n + 1. -/
def con (at' : Int) (n : Nat) : LEl → LEx × Nat
  | mk o a nm b => if o = 2 then (xNot (xPlc nm a), n) else if o = 3 ∨ o = 4 then (xNam (hE (n + 1)) a, n + 1) else if o = 5 then besB at' n b else (xPlc nm a, n)
def besB (at' : Int) (n : Nat) : List (List LEl) → LEx × Nat
  | [] => (xTru true at', n)
  | b :: bs => besF at' (conL at' n b).1 (conL at' n b).2 bs
def besF (at' : Int) (e : LEx) (n : Nat) : List (List LEl) → LEx × Nat
  | [] => (e, n)
  | b :: bs => besF at' (xTwo 7 at' e (conL at' n b).1) (conL at' n b).2 bs
def conL (at' : Int) (n : Nat) : List LEl → LEx × Nat
  | [] => (xTru true at', n)
  | e :: es => conF at' (con at' n e).1 (con at' n e).2 es
def conF (at' : Int) (x : LEx) (n : Nat) : List LEl → LEx × Nat
  | [] => (x, n)
  | e :: es => conF at' (xTwo 6 at' x (con at' n e).1) (con at' n e).2 es
end
end LEl
end Go.Abs
namespace Go.Abs
set_option autoImplicit false
set_option linter.all false
open LEl
def edgeS (at' : Int) (n : Nat) (e : LEl) : List LSt :=
  [sSet at' (xNam (hE n) e.pos) (if e.op = 4 then xTwo 6 e.pos (xNot (xPlc e.name e.pos)) (xNam (hP n) e.pos) else xTwo 6 e.pos (xPlc e.name e.pos) (xNot (xNam (hP n) e.pos))), sSet at' (xNam (hP n) e.pos) (xPlc e.name e.pos)]
def edgeV (n : Nat) : List LVr := [⟨hE n, 5, 1⟩, ⟨hP n, 4, 1⟩]
def edgesS (at' : Int) (n : Nat) : List LEl → List LSt
  | [] => []
  | e :: es => edgeS at' (n + 1) e ++ edgesS at' (n + 1) es
def edgesV (n : Nat) : List LEl → List LVr
  | [] => []
  | _ :: es => edgeV (n + 1) ++ edgesV (n + 1) es
theorem edgesS_append (at' : Int) (n : Nat) (a b : List LEl) : edgesS at' n (a ++ b) = edgesS at' n a ++ edgesS at' (n + a.length) b := by
  induction a generalizing n with
  | nil => simp [edgesS]
  | cons x xs ih => simp [edgesS, ih, Nat.add_assoc, Nat.add_comm 1]
theorem edgesV_append (n : Nat) (a b : List LEl) : edgesV n (a ++ b) = edgesV n a ++ edgesV (n + a.length) b := by
  induction a generalizing n with
  | nil => simp [edgesV]
  | cons x xs ih => simp [edgesV, ih, Nat.add_assoc, Nat.add_comm 1]
theorem edgesS_length (at' : Int) (n : Nat) (a : List LEl) : (edgesS at' n a).length = 2 * a.length := by
  induction a generalizing n with
  | nil => simp [edgesS]
  | cons x xs ih => simp [edgesS, edgeS, ih]; omega
theorem edgesV_length (n : Nat) (a : List LEl) : (edgesV n a).length = 2 * a.length := by
  induction a generalizing n with
  | nil => simp [edgesV]
  | cons x xs ih => simp [edgesV, edgeV, ih]; omega
def coilS (at' : Int) (r : ByteArray) (c : LEl) : LSt :=
  if c.op = 7 then sSet at' (xPlc c.name c.pos) (.mk 16 c.pos eE eE 0 0 eE [xNam r at'] [])
  else if c.op = 8 ∨ c.op = 9 then sIf at' (xNam r at') [sSet at' (xPlc c.name c.pos) (xTru (decide (c.op = 8)) at')]
  else sSet at' (xPlc c.name c.pos) (xNam r at')
def rungE (r : LRg) : Nat := (edgL r.con).length
def rungS (k n : Nat) (r : LRg) : List LSt :=
  edgesS r.pos n (edgL r.con) ++ (sSet r.pos (xNam (hR (k + 1)) r.pos) (conL r.pos n r.con).1 :: r.coils.map (coilS r.pos (hR (k + 1))))
def rungV (k n : Nat) (r : LRg) : List LVr := edgesV n (edgL r.con) ++ [⟨hR (k + 1), 5, 1⟩]
def ladE : List LRg → Nat
  | [] => 0
  | r :: l => rungE r + ladE l
def ladC : List LRg → Nat
  | [] => 0
  | r :: l => r.coils.length + ladC l
def ladS (k n : Nat) : List LRg → List LSt
  | [] => []
  | r :: l => rungS k n r ++ ladS (k + 1) (n + rungE r) l
def ladV (k n : Nat) : List LRg → List LVr
  | [] => []
  | r :: l => rungV k n r ++ ladV (k + 1) (n + rungE r) l
theorem ladE_append (a b : List LRg) : ladE (a ++ b) = ladE a + ladE b := by
  induction a with
  | nil => simp [ladE]
  | cons x xs ih => simp [ladE, ih, Nat.add_assoc]
theorem ladC_append (a b : List LRg) : ladC (a ++ b) = ladC a + ladC b := by
  induction a with
  | nil => simp [ladC]
  | cons x xs ih => simp [ladC, ih, Nat.add_assoc]
theorem ladS_append (k n : Nat) (a b : List LRg) : ladS k n (a ++ b) = ladS k n a ++ ladS (k + a.length) (n + ladE a) b := by
  induction a generalizing k n with
  | nil => simp [ladS, ladE]
  | cons x xs ih => simp [ladS, ladE, ih, Nat.add_assoc, Nat.add_comm 1]
theorem ladV_append (k n : Nat) (a b : List LRg) : ladV k n (a ++ b) = ladV k n a ++ ladV (k + a.length) (n + ladE a) b := by
  induction a generalizing k n with
  | nil => simp [ladV, ladE]
  | cons x xs ih => simp [ladV, ladE, ih, Nat.add_assoc, Nat.add_comm 1]
theorem ladS_length (k n : Nat) (l : List LRg) : (ladS k n l).length = 2 * ladE l + l.length + ladC l := by
  induction l generalizing k n with
  | nil => simp [ladS, ladE, ladC]
  | cons x xs ih => simp [ladS, ladE, ladC, ih, rungS, rungE, edgesS_length]; omega
theorem ladV_length (k n : Nat) (l : List LRg) : (ladV k n l).length = 2 * ladE l + l.length := by
  induction l generalizing k n with
  | nil => simp [ladV, ladE]
  | cons x xs ih => simp [ladV, ladE, ih, rungV, rungE, edgesV_length]; omega
namespace LEl
mutual
/-- Only branches have branches. -/
def ok : LEl → Prop
  | mk o _ _ b => (o = 5 ∨ b = []) ∧ okB b
def okB : List (List LEl) → Prop
  | [] => True
  | b :: bs => okL b ∧ okB bs
def okL : List LEl → Prop
  | [] => True
  | e :: es => ok e ∧ okL es
end
mutual
/-- The law's count of edges. -/
def ris : LEl → Nat
  | mk o _ _ b => (if o = 3 ∨ o = 4 then 1 else 0) + risB b
def risB : List (List LEl) → Nat
  | [] => 0
  | b :: bs => risL b + risB bs
def risL : List LEl → Nat
  | [] => 0
  | e :: es => ris e + risL es
end
theorem ris_eq (e : LEl) : e.ris = (if e.op = 3 ∨ e.op = 4 then 1 else 0) + risB e.br := by cases e; rw [ris]; rfl
theorem ok_eq (e : LEl) : e.ok ↔ (e.op = 5 ∨ e.br = []) ∧ okB e.br := by cases e; rw [ok]; rfl
theorem okL_append (a b : List LEl) : okL (a ++ b) ↔ okL a ∧ okL b := by
  induction a with
  | nil => simp [okL]
  | cons x xs ih => simp [okL, ih, and_assoc]
theorem okB_append (a b : List (List LEl)) : okB (a ++ b) ↔ okB a ∧ okB b := by
  induction a with
  | nil => simp [okB]
  | cons x xs ih => simp [okB, ih, and_assoc]
theorem risL_append (a b : List LEl) : risL (a ++ b) = risL a + risL b := by
  induction a with
  | nil => simp [risL]
  | cons x xs ih => simp [risL, ih, Nat.add_assoc]
theorem risB_append (a b : List (List LEl)) : risB (a ++ b) = risB a + risB b := by
  induction a with
  | nil => simp [risB]
  | cons x xs ih => simp [risB, ih, Nat.add_assoc]
mutual
theorem edg_ris : ∀ e : LEl, e.ok → (edg e).length = ris e
  | mk o a n b, h => by
    have hb := h.2
    rw [edg, ris]
    by_cases h3 : o = 3 ∨ o = 4
    · have : b = [] := by rcases h.1 with h5 | h5; · omega
                          · exact h5
      subst this; simp [h3, risB]
    · by_cases h5 : o = 5
      · rw [if_neg h3, if_neg h3, if_pos h5, edgB_ris b hb]; omega
      · have : b = [] := h.1.resolve_left h5
        subst this; simp [h3, h5, risB]
theorem edgB_ris : ∀ b : List (List LEl), okB b → (edgB b).length = risB b
  | [], _ => by simp [edgB, risB]
  | b :: bs, h => by simp [edgB, risB, edgL_ris b h.1, edgB_ris bs h.2]
theorem edgL_ris : ∀ l : List LEl, okL l → (edgL l).length = risL l
  | [], _ => by simp [edgL, risL]
  | e :: es, h => by simp [edgL, risL, edg_ris e h.1, edgL_ris es h.2]
end
mutual
theorem edg_size : ∀ e : LEl, (edg e).length ≤ size e
  | mk o a n b => by
    have := edgB_size b
    rw [edg, size]
    split
    · simp
    · split
      · omega
      · simp
theorem edgB_size : ∀ b : List (List LEl), (edgB b).length ≤ sizeB b
  | [] => by simp [edgB, sizeB]
  | b :: bs => by have := edgL_size b; have := edgB_size bs; simp [edgB, sizeB]; omega
theorem edgL_size : ∀ l : List LEl, (edgL l).length ≤ sizeL l
  | [] => by simp [edgL, sizeL]
  | e :: es => by have := edg_size e; have := edgL_size es; simp [edgL, sizeL]; omega
end
end LEl
end Go.Abs
namespace Go.Abs
open Go.Proofs
set_option autoImplicit false
set_option linter.all false
set_option maxRecDepth 100000
set_option maxHeartbeats 40000000
/-- What freezing leaves alone. -/
def Plain1 (p : PV) : Prop := (∀ cs, p = .agg cs → ∀ x ∈ cs, Frozen x) ∧ Frozen p
theorem frzVs_plain : ∀ {rs : List PV} {H : AS}, (∀ p ∈ rs, Plain1 p) → frzVs H rs = (rs, H)
  | [], _, _ => rfl
  | r :: rs, H, h => by
    have h1 := frzV_one (H := H) (h r (by simp))
    have h2 := frzVs_plain (rs := rs) (H := H) fun p hp => h p (by simp [hp])
    simp [frzVs, h1, h2]
theorem owes_many {P : Program} {H : AS} {fn : Func} {rs qs : List PV} {F' : AF} {H' : AS} {e : Exit} (he : e = .normal ∨ e = .ret) (hwf : WF H) (hr : aResults P F' H' fn.results.toList = some rs) (hq : rs = qs) (hext : H.Ext H')
    (hf : ∀ p ∈ qs, Plain1 p) (hb : ∀ p ∈ qs, Below H.next p) : Owes P fn H (fun r H'' => r = packed qs ∧ H'' = H) e F' H' := by
  subst hq
  have e := frzVs_plain (H := H') hf
  refine owes_pure he hwf hr ?_ ?_ ?_
  · rw [e]; exact hext
  · rw [e]; exact hb
  · rw [e]
@[simp] theorem plain1_val (v : Value) : Plain1 (.val v) ↔ Frozen (.val v) := ⟨fun h => h.2, fun h => ⟨by simp, h⟩⟩
theorem owes_vals {P : Program} {H : AS} {fn : Func} {rs qs : List PV} {q : PV} {F' : AF} {H' : AS} {e : Exit} (he : e = .normal ∨ e = .ret) (hwf : WF H) (hr : aResults P F' H' fn.results.toList = some rs) (hq : q = packed qs) (hrs : rs = qs) (hext : H.Ext H')
    (hf : ∀ p ∈ qs, Plain1 p) (hb : ∀ p ∈ qs, Below H.next p) : Owes P fn H (fun r H'' => r = q ∧ H'' = H) e F' H' := by
  subst hq; exact owes_many he hwf hr hrs hext hf hb
theorem Owes.mono {P : Program} {fn : Func} {H : AS} {k k' : PV → AS → Prop} {e : Exit} {F' : AF} {H' : AS} (hk : ∀ q H, k q H → k' q H) (h : Owes P fn H k e F' H') : Owes P fn H k' e F' H' := by
  refine ⟨h.1, ?_⟩
  have h2 := h.2
  split at h2
  · rename_i rs hrs
    obtain ⟨H1, h3, h4, h5, h6, h7⟩ := h2
    exact ⟨H1, h3, h4, h5, h6, hk _ _ h7⟩
  · exact h2.elim
/-- The results, one by one. -/
def resP (P : Program) (F : AF) (H : AS) : List ResultVar → (List PV → Prop) → Prop
  | [], K => K []
  | .tmp t :: rs, K => resP P F H rs fun l => K (F t :: l)
  | .cell t ty :: rs, K => ∃ q, aload P H ty (F t) = some q ∧ resP P F H rs fun l => K (q :: l)
theorem resP_res {P : Program} {F : AF} {H : AS} : ∀ {l : List ResultVar} {K : List PV → Prop}, resP P F H l K → ∃ rs, aResults P F H l = some rs ∧ K rs
  | [], K, h => ⟨[], rfl, h⟩
  | .tmp t :: rs, K, h => by
    obtain ⟨l, h1, h2⟩ := resP_res (l := rs) h
    exact ⟨F t :: l, by simp [aResults, h1], h2⟩
  | .cell t ty :: rs, K, h => by
    obtain ⟨q, hq, h⟩ := h
    obtain ⟨l, h1, h2⟩ := resP_res (l := rs) h
    exact ⟨q :: l, by simp [aResults, hq, h1], h2⟩
theorem owes_r {P : Program} {H : AS} {fn : Func} {R : PV → Prop} {l : List ResultVar} {F' : AF} {H' : AS} {e : Exit} (he : e = .normal ∨ e = .ret) (hwf : WF H) (hl : fn.results.toList = l)
    (hext : H.Ext H') (h : resP P F' H' l fun rs => (∀ p ∈ rs, Plain1 p) ∧ (∀ p ∈ rs, Below H.next p) ∧ R (packed rs)) : Owes P fn H (fun q H'' => R q ∧ H'' = H) e F' H' := by
  obtain ⟨rs, h1, h2, h3, h4⟩ := resP_res h
  exact Owes.mono (k := fun r H'' => r = packed rs ∧ H'' = H) (fun q H'' h => ⟨by rw [h.1]; exact h4, h.2⟩) (owes_many he hwf (by rw [hl]; exact h1) rfl hext h2 h3)
theorem plain1_agg (cs : List PV) : Plain1 (.agg cs) ↔ ∀ x ∈ cs, Frozen x := ⟨fun h => h.1 cs rfl, fun h => ⟨fun c e x hx => by (cases e; exact h x hx), by simp⟩⟩
theorem plain1_sl (c sz : Nat) (r : List (List PV)) : Plain1 (PV.sl c sz r) := ⟨fun cs e => by (cases r <;> cases e), by simp⟩
end Go.Abs
namespace Go.Abs
set_option autoImplicit false
set_option linter.all false
structure LTok where
  kind : Int
  pos : Int
  stop : Int
  text : ByteArray
  val : DVal
def LTok.row (t : LTok) : List PV := [pi t.kind, pi t.pos, pi t.stop, ps t.text, k8 t.val.kind, k64 t.val.bits, ps t.val.text]
def LTok.ok (t : LTok) : Prop := t.text.size ≤ 131072
/-- A reader of words. -/
structure LRd where
  toks : List LTok
  took : Int
  why : Int
  place : Int
  deep : Int
namespace LRd
def row (c : Nat) (en : Int) (r : LRd) : List PV := [PV.sl (c % 2) 7 (r.toks.map LTok.row), pi en, pi r.took, pi 0, pi r.why, pi r.place, pi r.deep]
/-- How much may still be read. -/
def mu (r : LRd) : Nat := if r.why = 0 then r.toks.length + 1 else 0
def good (r : LRd) : Prop := ∀ t ∈ r.toks, t.ok
def fail (e at' : Int) (r : LRd) : LRd := if r.why = 0 then { r with why := e, place := at' } else r
def pop (r : LRd) : LRd := { r with toks := r.toks.tail, took := IntKind.i64.wrap (r.took + 1) }
/-- What reading may come to. -/
structure to (r r' : LRd) : Prop where
  good : r.good → r'.good
  mu : r'.mu ≤ r.mu
  len : r'.toks.length ≤ r.toks.length
  why : ¬ r.why = 0 → ¬ r'.why = 0
  deep : r'.deep = r.deep
theorem to.refl (r : LRd) : r.to r := ⟨id, Nat.le_refl _, Nat.le_refl _, id, rfl⟩
theorem to.trans {a b c : LRd} (h : a.to b) (h' : b.to c) : a.to c := ⟨fun g => h'.good (h.good g), Nat.le_trans h'.mu h.mu, Nat.le_trans h'.len h.len, fun g => h'.why (h.why g), h'.deep.trans h.deep⟩
theorem to_fail (e at' : Int) (he : ¬ e = 0) (r : LRd) : r.to (r.fail e at') := by
  unfold fail
  by_cases h : r.why = 0
  · rw [if_pos h]; exact ⟨fun g => g, by simp [mu, he], Nat.le_refl _, fun g => he, rfl⟩
  · rw [if_neg h]; exact .refl r
theorem mu_fail (e at' : Int) (he : ¬ e = 0) (r : LRd) : (r.fail e at').mu = 0 := by
  unfold fail
  by_cases h : r.why = 0
  · rw [if_pos h]; simp [mu, he]
  · rw [if_neg h]; simp [mu, h]
theorem to_pop {r : LRd} (h : ¬ r.toks = []) : r.to r.pop := by
  refine ⟨fun g t ht => g t (List.mem_of_mem_tail ht), ?_, ?_, fun g => g, rfl⟩
  · by_cases h0 : r.why = 0 <;> simp [mu, pop, h0]
  · simp [pop]
theorem mu_pop {r : LRd} (h : ¬ r.toks = []) (h0 : r.why = 0) : r.pop.mu < r.mu := by
  have := List.length_pos_iff.2 h
  simp [mu, pop, h0]; omega
theorem mu_zero {r : LRd} (h : ¬ r.why = 0) : r.mu = 0 := by simp [mu, h]
theorem mu_pos {r : LRd} (h : r.why = 0) : 0 < r.mu := by simp [mu, h]
end LRd
end Go.Abs
namespace Go.Abs
open Go.Proofs
set_option autoImplicit false
set_option linter.all false
set_option maxRecDepth 100000
set_option maxHeartbeats 40000000
/-- What an append does with what it is handed: nothing, or it freezes it. -/
theorem aappend_outZ {P : Program} {lo : Nat} {H H1 : AS} {p : PV} {sz : Nat} {rows : List (List PV)} (h : OutIs lo H1 p sz rows) (hlo : lo ≤ H1.next) {sT xT elem : TypeId} {xd : TypeDesc} {zs : List PV} {by_ : Nat}
    (h1 : P.underlying sT = some (.slice elem)) (h2 : P.underlying xT = some xd) (hsz : szOf P elem = some sz) (hz : zeroOf P elem = some zs) (hb : bytesOf P elem = some by_)
    (hz1 : zs.length = sz) (hz2 : zs.all PV.atomic = true) (hby : 0 < by_) {y : PV} {ys ys' : List (List PV)} (hy : srcOfT H sz xd y = some ys) (hf : frzR H ys = (ys', H1)) (hl' : ys'.length = ys.length)
    (hsize : appFits (rows.length + ys.length) by_) {k : PV → AS → Prop} (hk : ∀ p' H', OutIs lo H' p' sz (rows ++ ys') → Above lo H1 H' → Elsewhere p p' H1 H' → k p' H') : aappend P H sT xT p y k := by
  left
  unfold aappendX fzR
  simp only [h1, h2, hsz, hz, hb, hy, if_true, hf]
  refine ⟨⟨hz1, hz2, hby⟩, ?_⟩
  rcases h with ⟨rfl, rfl⟩ | ⟨id, hid, hlt, rfl, hbox⟩
  · by_cases hl : ys.length = 0
    · have : ys = [] := List.length_eq_zero_iff.1 hl
      subst this
      simp [frzR] at hf
      obtain ⟨rfl, rfl⟩ := hf
      exact hk _ _ .nil .refl ⟨Nat.le_refl _, rfl, fun _ _ _ => rfl, fun _ => rfl, fun j n s e => .inl ⟨n, s, e⟩⟩
    · simp only [hl, if_false]
      refine ⟨by simpa using hsize, hk _ _ (.inr ⟨H1.next, hlo, by simp, by simp [hl'], by simp⟩) (fun H0 h0 hext => ?_) ⟨by simp, rfl, fun j hj _ => by simp [Nat.ne_of_lt hj], fun _ => rfl, fun j n s e => by cases e; exact .inr (Nat.le_refl _)⟩⟩
      exact AS.Ext.bump (AS.Ext.setBox (by omega) hext)
  · simp only [hbox]
    refine ⟨⟨trivial, trivial, hsize⟩, hk _ _ (.inr ⟨id, hid, by simpa using hlt, by simp [hl'], by simp⟩) (fun H0 h0 hext => ?_) ⟨by simp, rfl, fun j _ hj => ?_, fun _ => rfl, fun j n s e => by cases e; exact .inl ⟨_, _, rfl⟩⟩⟩
    · exact AS.Ext.setBox (by omega) hext
    · have : j ≠ id := fun e => hj _ _ (by rw [e])
      simp [this]
/-- A list of one's own, frozen: it stays, or its box is gone. -/
theorem frz_out' {lo : Nat} {H : AS} {p : PV} {sz : Nat} {rows : List (List PV)} (h : OutIs lo H p sz rows) : ∃ H', frz H p = (PV.sl H.color sz rows, H') ∧ H'.next = H.next ∧ H'.color = H.color ∧ (∀ j, (∀ n s, p ≠ .msl j n s) → H'.box j = H.box j) ∧ (∀ j, H'.mp j = H.mp j) ∧ Above lo H H' := by
  obtain ⟨H1, h1, h2⟩ := frz_out h
  rcases h with ⟨rfl, rfl⟩ | ⟨id, hid, hlt, rfl, hbox⟩
  · refine ⟨H, rfl, rfl, rfl, fun _ _ => rfl, fun _ => rfl, .refl⟩
  · have e : frz H (.msl id rows.length sz) = (PV.sl H.color sz rows, H.kill id) := by simp [frz, hbox]
    rw [e] at h1
    cases h1
    refine ⟨_, e, rfl, rfl, fun j hj => ?_, fun _ => rfl, h2⟩
    have : j ≠ id := fun e => hj _ _ (by rw [e])
    simp [AS.kill, this]
/-- A row with one list of one's own among its cells. -/
theorem frzR_one {lo : Nat} {H : AS} {pre post : List PV} {p : PV} {sz : Nat} {rows : List (List PV)} (h : OutIs lo H p sz rows) (hpre : ∀ x ∈ pre, Frozen x) (hpost : ∀ x ∈ post, Frozen x) :
    ∃ H', frzR H [pre ++ p :: post] = ([pre ++ PV.sl H.color sz rows :: post], H') ∧ H'.next = H.next ∧ H'.color = H.color ∧ (∀ j, (∀ n s, p ≠ .msl j n s) → H'.box j = H.box j) ∧ (∀ j, H'.mp j = H.mp j) ∧ Above lo H H' := by
  obtain ⟨H1, h1, h2⟩ := frz_out' h
  refine ⟨H1, ?_, h2⟩
  have hv : frzL H (pre ++ p :: post) = (pre ++ PV.sl H.color sz rows :: post, H1) := by
    rw [frzL_append hpre]; simp [frzL, h1, frzL_id hpost]
  simp [frzR, hv]
end Go.Abs
namespace Go.Abs
set_option autoImplicit false
set_option linter.all false
theorem owes_at {P : Program} {H H1 : AS} {fn : Func} {R : PV → AS → Prop} {l : List ResultVar} {F' : AF} {H' : AS} {e : Exit} (he : e = .normal ∨ e = .ret) (hwf : WF H1) (hn : H.next ≤ H1.next) (hl : fn.results.toList = l)
    (hext : H1.Ext H') (h : resP P F' H' l fun rs => (∀ p ∈ rs, Plain1 p) ∧ (∀ p ∈ rs, Below H1.next p) ∧ R (packed rs) H1) : Owes P fn H R e F' H' := by
  obtain ⟨rs, h1, h2, h3, h4⟩ := resP_res h
  refine ⟨he, ?_⟩
  rw [hl, h1]
  have e := frzVs_plain (H := H') h2
  refine ⟨H1, hn, ?_, hwf, ?_, ?_⟩
  · rw [e]; exact hext
  · rw [e]; exact h3
  · rw [e]; exact h4
theorem owes_at_out {P : Program} {H H1 : AS} {fn : Func} {R : PV → AS → Prop} {l : List ResultVar} {F' : AF} {H' : AS} {e : Exit} {lo sz : Nat} {rows : List (List PV)} (he : e = .normal ∨ e = .ret) (hwf : WF H1) (hn : H.next ≤ H1.next) (hl : fn.results.toList = l)
    (hext : H1.Ext H') (hlo : H1.next ≤ lo) (hb : ∀ r ∈ rows, ∀ p ∈ r, Below H1.next p) (h : resP P F' H' l fun rs => ∃ p qs, rs = p :: qs ∧ OutIs lo H' p sz rows ∧ (∀ p ∈ qs, Plain1 p) ∧ (∀ p ∈ qs, Below H1.next p) ∧ R (packed (PV.sl H1.color sz rows :: qs)) H1) : Owes P fn H R e F' H' := by
  obtain ⟨rs, h1, p, qs, rfl, ho, h2, h3, h4⟩ := resP_res h
  refine ⟨he, ?_⟩
  rw [hl, h1]
  obtain ⟨H2, hf, hab⟩ := frz_out ho
  have hv : frzV H' p = (PV.sl H'.color sz rows, H2) := by
    rcases ho with ⟨rfl, rfl⟩ | ⟨id, hid, hlt, rfl, hbox⟩ <;> exact hf
  have e2 := frzVs_plain (H := H2) h2
  have e : frzVs H' (p :: qs) = (PV.sl H'.color sz rows :: qs, H2) := by simp [frzVs, hv, e2]
  refine ⟨H1, hn, ?_, hwf, ?_, ?_⟩
  · rw [e]; exact hab H1 hlo hext
  · rw [e, hext.color]
    intro q hq
    rcases List.mem_cons.1 hq with rfl | hq
    · rw [below_sl]; exact hb
    · exact h3 q hq
  · rw [e, hext.color]; exact h4
theorem setBox_setBox' {H : AS} {id : Nat} {r s : List (List PV)} : (H.setBox id r).setBox id s = H.setBox id s := by
  cases H; simp only [AS.setBox, AS.mk.injEq, and_true]
  funext i; split <;> rfl
theorem setBox_same {H : AS} {id : Nat} {r : List (List PV)} (h : H.box id = some r) : H.setBox id r = H := by
  cases H; simp only [AS.setBox, AS.mk.injEq, and_true]
  funext i
  split
  · rename_i e; subst e; exact h.symm
  · rfl
theorem wf_set {H : AS} {id : Nat} {row row' : List PV} (hwf : WF H) (hb : H.box id = some [row]) (h : ∀ p ∈ row', Below H.next p) : WF (H.setBox id [row']) := by
  refine ⟨fun j rows hj => ?_, hwf.mp⟩
  rw [box_setBox] at hj
  split at hj
  · rename_i e; subst e; cases hj
    exact ⟨(hwf.box _ _ hb).1, fun r hr p hp => by rw [List.mem_singleton] at hr; subst hr; exact h p hp⟩
  · exact hwf.box j rows hj
namespace LRd
theorem below (n c : Nat) (en : Int) (r : LRd) : ∀ p ∈ r.row c en, Below n p := by
  simp only [row, List.mem_cons, List.not_mem_nil, or_false]
  rintro p (rfl | rfl | rfl | rfl | rfl | rfl | rfl)
  · rw [below_sl]
    intro x hx p hp
    obtain ⟨t, _, rfl⟩ := List.mem_map.1 hx
    simp only [LTok.row, List.mem_cons, List.not_mem_nil, or_false] at hp
    rcases hp with rfl | rfl | rfl | rfl | rfl | rfl | rfl <;> exact .val _
  all_goals exact .val _
theorem row_mk (c : Nat) (en : Int) (l : List LTok) (t w p d : Int) : row c en ⟨l, t, w, p, d⟩ = [PV.sl (c % 2) 7 (l.map LTok.row), pi en, pi t, pi 0, pi w, pi p, pi d] := rfl
end LRd
end Go.Abs
namespace Go.Abs
open Go.Proofs
set_option autoImplicit false
set_option linter.all false
set_option maxRecDepth 100000
set_option maxHeartbeats 40000000
@[simp] theorem Tryz.sz3 : szOf Tryz.prog 3 = some 1 := by kernel_rfl
@[simp] theorem Tryz.by3 : bytesOf Tryz.prog 3 = some 8 := by kernel_rfl
@[simp] theorem Tryz.agg3 : aggOf Tryz.prog 3 = some false := by kernel_rfl
@[simp] theorem Tryz.zero3 : zeroOf Tryz.prog 3 = some [.val (.int .i64 0)] := by kernel_rfl
@[simp] theorem Tryz.sz4 : szOf Tryz.prog 4 = some 1 := by kernel_rfl
@[simp] theorem Tryz.by4 : bytesOf Tryz.prog 4 = some 1 := by kernel_rfl
@[simp] theorem Tryz.agg4 : aggOf Tryz.prog 4 = some false := by kernel_rfl
@[simp] theorem Tryz.zero4 : zeroOf Tryz.prog 4 = some [.val (.bool false)] := by kernel_rfl
@[simp] theorem Tryz.sz5 : szOf Tryz.prog 5 = some 1 := by kernel_rfl
@[simp] theorem Tryz.by5 : bytesOf Tryz.prog 5 = some 1 := by kernel_rfl
@[simp] theorem Tryz.agg5 : aggOf Tryz.prog 5 = some false := by kernel_rfl
@[simp] theorem Tryz.zero5 : zeroOf Tryz.prog 5 = some [.val (.int .u8 0)] := by kernel_rfl
@[simp] theorem Tryz.sz9 : szOf Tryz.prog 9 = some 1 := by kernel_rfl
@[simp] theorem Tryz.by9 : bytesOf Tryz.prog 9 = some 16 := by kernel_rfl
@[simp] theorem Tryz.agg9 : aggOf Tryz.prog 9 = some false := by kernel_rfl
@[simp] theorem Tryz.zero9 : zeroOf Tryz.prog 9 = some [.val (.string ⟨#[]⟩)] := by kernel_rfl
@[simp] theorem Tryz.sz22 : szOf Tryz.prog 22 = some 1 := by kernel_rfl
@[simp] theorem Tryz.by22 : bytesOf Tryz.prog 22 = some 24 := by kernel_rfl
@[simp] theorem Tryz.agg22 : aggOf Tryz.prog 22 = some false := by kernel_rfl
@[simp] theorem Tryz.zero22 : zeroOf Tryz.prog 22 = some [.val (.slice none 0 0)] := by kernel_rfl
@[simp] theorem Tryz.sz23 : szOf Tryz.prog 23 = some 1 := by kernel_rfl
@[simp] theorem Tryz.by23 : bytesOf Tryz.prog 23 = some 8 := by kernel_rfl
@[simp] theorem Tryz.agg23 : aggOf Tryz.prog 23 = some false := by kernel_rfl
@[simp] theorem Tryz.zero23 : zeroOf Tryz.prog 23 = some [.val (.int .i64 0)] := by kernel_rfl
@[simp] theorem Tryz.sz26 : szOf Tryz.prog 26 = some 1 := by kernel_rfl
@[simp] theorem Tryz.by26 : bytesOf Tryz.prog 26 = some 24 := by kernel_rfl
@[simp] theorem Tryz.agg26 : aggOf Tryz.prog 26 = some false := by kernel_rfl
@[simp] theorem Tryz.zero26 : zeroOf Tryz.prog 26 = some [.val (.slice none 0 0)] := by kernel_rfl
@[simp] theorem Tryz.sz27 : szOf Tryz.prog 27 = some 1 := by kernel_rfl
@[simp] theorem Tryz.by27 : bytesOf Tryz.prog 27 = some 24 := by kernel_rfl
@[simp] theorem Tryz.agg27 : aggOf Tryz.prog 27 = some false := by kernel_rfl
@[simp] theorem Tryz.zero27 : zeroOf Tryz.prog 27 = some [.val (.slice none 0 0)] := by kernel_rfl
@[simp] theorem Tryz.sz29 : szOf Tryz.prog 29 = some 1 := by kernel_rfl
@[simp] theorem Tryz.by29 : bytesOf Tryz.prog 29 = some 16 := by kernel_rfl
@[simp] theorem Tryz.agg29 : aggOf Tryz.prog 29 = some false := by kernel_rfl
@[simp] theorem Tryz.zero29 : zeroOf Tryz.prog 29 = some [.val .nilIface] := by kernel_rfl
@[simp] theorem Tryz.sz36 : szOf Tryz.prog 36 = some 1 := by kernel_rfl
@[simp] theorem Tryz.by36 : bytesOf Tryz.prog 36 = some 24 := by kernel_rfl
@[simp] theorem Tryz.agg36 : aggOf Tryz.prog 36 = some false := by kernel_rfl
@[simp] theorem Tryz.zero36 : zeroOf Tryz.prog 36 = some [.val (.slice none 0 0)] := by kernel_rfl
@[simp] theorem Tryz.sz38 : szOf Tryz.prog 38 = some 2 := by kernel_rfl
@[simp] theorem Tryz.by38 : bytesOf Tryz.prog 38 = some 32 := by kernel_rfl
@[simp] theorem Tryz.agg38 : aggOf Tryz.prog 38 = some true := by kernel_rfl
@[simp] theorem Tryz.zero38 : zeroOf Tryz.prog 38 = some [.val (.int .i64 0), .val (.slice none 0 0)] := by kernel_rfl
@[simp] theorem Tryz.sz39 : szOf Tryz.prog 39 = some 1 := by kernel_rfl
@[simp] theorem Tryz.by39 : bytesOf Tryz.prog 39 = some 8 := by kernel_rfl
@[simp] theorem Tryz.agg39 : aggOf Tryz.prog 39 = some false := by kernel_rfl
@[simp] theorem Tryz.zero39 : zeroOf Tryz.prog 39 = some [.val (.int .u64 0)] := by kernel_rfl
@[simp] theorem Tryz.sz41 : szOf Tryz.prog 41 = some 1 := by kernel_rfl
@[simp] theorem Tryz.by41 : bytesOf Tryz.prog 41 = some 1 := by kernel_rfl
@[simp] theorem Tryz.agg41 : aggOf Tryz.prog 41 = some false := by kernel_rfl
@[simp] theorem Tryz.zero41 : zeroOf Tryz.prog 41 = some [.val (.int .u8 0)] := by kernel_rfl
@[simp] theorem Tryz.sz42 : szOf Tryz.prog 42 = some 1 := by kernel_rfl
@[simp] theorem Tryz.by42 : bytesOf Tryz.prog 42 = some 24 := by kernel_rfl
@[simp] theorem Tryz.agg42 : aggOf Tryz.prog 42 = some false := by kernel_rfl
@[simp] theorem Tryz.zero42 : zeroOf Tryz.prog 42 = some [.val (.slice none 0 0)] := by kernel_rfl
@[simp] theorem Tryz.sz43 : szOf Tryz.prog 43 = some 1 := by kernel_rfl
@[simp] theorem Tryz.by43 : bytesOf Tryz.prog 43 = some 24 := by kernel_rfl
@[simp] theorem Tryz.agg43 : aggOf Tryz.prog 43 = some false := by kernel_rfl
@[simp] theorem Tryz.zero43 : zeroOf Tryz.prog 43 = some [.val (.slice none 0 0)] := by kernel_rfl
@[simp] theorem Tryz.sz45 : szOf Tryz.prog 45 = some 7 := by kernel_rfl
@[simp] theorem Tryz.by45 : bytesOf Tryz.prog 45 = some 104 := by kernel_rfl
@[simp] theorem Tryz.agg45 : aggOf Tryz.prog 45 = some true := by kernel_rfl
@[simp] theorem Tryz.zero45 : zeroOf Tryz.prog 45 = some [.val (.int .i64 0), .val (.int .i64 0), .val (.string ⟨#[]⟩), .val (.int .u8 0), .val (.string ⟨#[]⟩), .val (.slice none 0 0), .val (.slice none 0 0)] := by kernel_rfl
@[simp] theorem Tryz.sz46 : szOf Tryz.prog 46 = some 1 := by kernel_rfl
@[simp] theorem Tryz.by46 : bytesOf Tryz.prog 46 = some 8 := by kernel_rfl
@[simp] theorem Tryz.agg46 : aggOf Tryz.prog 46 = some false := by kernel_rfl
@[simp] theorem Tryz.zero46 : zeroOf Tryz.prog 46 = some [.val (.map none)] := by kernel_rfl
@[simp] theorem Tryz.sz48 : szOf Tryz.prog 48 = some 1 := by kernel_rfl
@[simp] theorem Tryz.by48 : bytesOf Tryz.prog 48 = some 24 := by kernel_rfl
@[simp] theorem Tryz.agg48 : aggOf Tryz.prog 48 = some false := by kernel_rfl
@[simp] theorem Tryz.zero48 : zeroOf Tryz.prog 48 = some [.val (.slice none 0 0)] := by kernel_rfl
@[simp] theorem Tryz.sz49 : szOf Tryz.prog 49 = some 1 := by kernel_rfl
@[simp] theorem Tryz.by49 : bytesOf Tryz.prog 49 = some 24 := by kernel_rfl
@[simp] theorem Tryz.agg49 : aggOf Tryz.prog 49 = some false := by kernel_rfl
@[simp] theorem Tryz.zero49 : zeroOf Tryz.prog 49 = some [.val (.slice none 0 0)] := by kernel_rfl
@[simp] theorem Tryz.sz51 : szOf Tryz.prog 51 = some 14 := by kernel_rfl
@[simp] theorem Tryz.by51 : bytesOf Tryz.prog 51 = some 232 := by kernel_rfl
@[simp] theorem Tryz.agg51 : aggOf Tryz.prog 51 = some true := by kernel_rfl
@[simp] theorem Tryz.zero51 : zeroOf Tryz.prog 51 = some [.val (.int .i64 0), .val (.int .i64 0), .val (.string ⟨#[]⟩), .val (.int .i64 0), .val (.slice none 0 0), .val (.slice none 0 0), .val (.slice none 0 0), .val (.slice none 0 0), .val (.slice none 0 0), .val (.slice none 0 0), .val (.slice none 0 0), .val (.int .u8 0), .val (.int .i64 0), .val (.int .i64 0)] := by kernel_rfl
@[simp] theorem Tryz.sz55 : szOf Tryz.prog 55 = some 1 := by kernel_rfl
@[simp] theorem Tryz.by55 : bytesOf Tryz.prog 55 = some 24 := by kernel_rfl
@[simp] theorem Tryz.agg55 : aggOf Tryz.prog 55 = some false := by kernel_rfl
@[simp] theorem Tryz.zero55 : zeroOf Tryz.prog 55 = some [.val (.slice none 0 0)] := by kernel_rfl
@[simp] theorem Tryz.sz60 : szOf Tryz.prog 60 = some 1 := by kernel_rfl
@[simp] theorem Tryz.by60 : bytesOf Tryz.prog 60 = some 24 := by kernel_rfl
@[simp] theorem Tryz.agg60 : aggOf Tryz.prog 60 = some false := by kernel_rfl
@[simp] theorem Tryz.zero60 : zeroOf Tryz.prog 60 = some [.val (.slice none 0 0)] := by kernel_rfl
@[simp] theorem Tryz.sz62 : szOf Tryz.prog 62 = some 3 := by kernel_rfl
@[simp] theorem Tryz.by62 : bytesOf Tryz.prog 62 = some 56 := by kernel_rfl
@[simp] theorem Tryz.agg62 : aggOf Tryz.prog 62 = some true := by kernel_rfl
@[simp] theorem Tryz.zero62 : zeroOf Tryz.prog 62 = some [.val (.int .i64 0), .val (.slice none 0 0), .val (.slice none 0 0)] := by kernel_rfl
@[simp] theorem Tryz.sz70 : szOf Tryz.prog 70 = some 1 := by kernel_rfl
@[simp] theorem Tryz.by70 : bytesOf Tryz.prog 70 = some 24 := by kernel_rfl
@[simp] theorem Tryz.agg70 : aggOf Tryz.prog 70 = some false := by kernel_rfl
@[simp] theorem Tryz.zero70 : zeroOf Tryz.prog 70 = some [.val (.slice none 0 0)] := by kernel_rfl
@[simp] theorem Tryz.sz72 : szOf Tryz.prog 72 = some 4 := by kernel_rfl
@[simp] theorem Tryz.by72 : bytesOf Tryz.prog 72 = some 56 := by kernel_rfl
@[simp] theorem Tryz.agg72 : aggOf Tryz.prog 72 = some true := by kernel_rfl
@[simp] theorem Tryz.zero72 : zeroOf Tryz.prog 72 = some [.val (.int .i64 0), .val (.int .i64 0), .val (.string ⟨#[]⟩), .val (.slice none 0 0)] := by kernel_rfl
@[simp] theorem Tryz.sz73 : szOf Tryz.prog 73 = some 1 := by kernel_rfl
@[simp] theorem Tryz.by73 : bytesOf Tryz.prog 73 = some 24 := by kernel_rfl
@[simp] theorem Tryz.agg73 : aggOf Tryz.prog 73 = some false := by kernel_rfl
@[simp] theorem Tryz.zero73 : zeroOf Tryz.prog 73 = some [.val (.slice none 0 0)] := by kernel_rfl
@[simp] theorem Tryz.sz76 : szOf Tryz.prog 76 = some 1 := by kernel_rfl
@[simp] theorem Tryz.agg76 : aggOf Tryz.prog 76 = some false := by kernel_rfl
@[simp] theorem Tryz.sz78 : szOf Tryz.prog 78 = some 6 := by kernel_rfl
@[simp] theorem Tryz.by78 : bytesOf Tryz.prog 78 = some 64 := by kernel_rfl
@[simp] theorem Tryz.agg78 : aggOf Tryz.prog 78 = some true := by kernel_rfl
@[simp] theorem Tryz.zero78 : zeroOf Tryz.prog 78 = some [.val (.slice none 0 0), .val (.int .i64 0), .val (.int .i64 0), .val (.int .i64 0), .val (.int .i64 0), .val (.int .i64 0)] := by kernel_rfl
@[simp] theorem Tryz.sz80 : szOf Tryz.prog 80 = some 7 := by kernel_rfl
@[simp] theorem Tryz.by80 : bytesOf Tryz.prog 80 = some 72 := by kernel_rfl
@[simp] theorem Tryz.agg80 : aggOf Tryz.prog 80 = some true := by kernel_rfl
@[simp] theorem Tryz.zero80 : zeroOf Tryz.prog 80 = some [.val (.slice none 0 0), .val (.int .i64 0), .val (.int .i64 0), .val (.int .i64 0), .val (.int .i64 0), .val (.int .i64 0), .val (.int .i64 0)] := by kernel_rfl
@[simp] theorem Tryz.sz85 : szOf Tryz.prog 85 = some 1 := by kernel_rfl
@[simp] theorem Tryz.by85 : bytesOf Tryz.prog 85 = some 8 := by kernel_rfl
@[simp] theorem Tryz.agg85 : aggOf Tryz.prog 85 = some false := by kernel_rfl
@[simp] theorem Tryz.zero85 : zeroOf Tryz.prog 85 = some [.val (.pointer none)] := by kernel_rfl
@[simp] theorem Tryz.sz87 : szOf Tryz.prog 87 = some 2 := by kernel_rfl
@[simp] theorem Tryz.by87 : bytesOf Tryz.prog 87 = some 48 := by kernel_rfl
@[simp] theorem Tryz.agg87 : aggOf Tryz.prog 87 = some true := by kernel_rfl
@[simp] theorem Tryz.zero87 : zeroOf Tryz.prog 87 = some [.val (.slice none 0 0), .val (.slice none 0 0)] := by kernel_rfl
@[simp] theorem Tryz.sz88 : szOf Tryz.prog 88 = some 1 := by kernel_rfl
@[simp] theorem Tryz.by88 : bytesOf Tryz.prog 88 = some 8 := by kernel_rfl
@[simp] theorem Tryz.agg88 : aggOf Tryz.prog 88 = some false := by kernel_rfl
@[simp] theorem Tryz.zero88 : zeroOf Tryz.prog 88 = some [.val (.pointer none)] := by kernel_rfl
@[simp] theorem Tryz.sz89 : szOf Tryz.prog 89 = some 1 := by kernel_rfl
@[simp] theorem Tryz.by89 : bytesOf Tryz.prog 89 = some 24 := by kernel_rfl
@[simp] theorem Tryz.agg89 : aggOf Tryz.prog 89 = some false := by kernel_rfl
@[simp] theorem Tryz.zero89 : zeroOf Tryz.prog 89 = some [.val (.slice none 0 0)] := by kernel_rfl
@[simp] theorem Tryz.sz91 : szOf Tryz.prog 91 = some 2 := by kernel_rfl
@[simp] theorem Tryz.by91 : bytesOf Tryz.prog 91 = some 48 := by kernel_rfl
@[simp] theorem Tryz.agg91 : aggOf Tryz.prog 91 = some true := by kernel_rfl
@[simp] theorem Tryz.zero91 : zeroOf Tryz.prog 91 = some [.val (.slice none 0 0), .val (.slice none 0 0)] := by kernel_rfl
@[simp] theorem Tryz.sz101 : szOf Tryz.prog 101 = some 2 := by kernel_rfl
@[simp] theorem Tryz.by101 : bytesOf Tryz.prog 101 = some 16 := by kernel_rfl
@[simp] theorem Tryz.agg101 : aggOf Tryz.prog 101 = some true := by kernel_rfl
@[simp] theorem Tryz.zero101 : zeroOf Tryz.prog 101 = some [.val (.int .i64 0), .val (.int .i64 0)] := by kernel_rfl
@[simp] theorem Tryz.sz108 : szOf Tryz.prog 108 = some 9 := by kernel_rfl
@[simp] theorem Tryz.by108 : bytesOf Tryz.prog 108 = some 72 := by kernel_rfl
@[simp] theorem Tryz.agg108 : aggOf Tryz.prog 108 = some true := by kernel_rfl
@[simp] theorem Tryz.zero108 : zeroOf Tryz.prog 108 = some [.val (.int .u8 0), .val (.bool false), .val (.int .i64 0), .val (.int .i64 0), .val (.int .i64 0), .val (.bool false), .val (.int .i64 0), .val (.int .i64 0), .val (.string ⟨#[]⟩)] := by kernel_rfl
@[simp] theorem Tryz.sz109 : szOf Tryz.prog 109 = some 1 := by kernel_rfl
@[simp] theorem Tryz.by109 : bytesOf Tryz.prog 109 = some 24 := by kernel_rfl
@[simp] theorem Tryz.agg109 : aggOf Tryz.prog 109 = some false := by kernel_rfl
@[simp] theorem Tryz.zero109 : zeroOf Tryz.prog 109 = some [.val (.slice none 0 0)] := by kernel_rfl
@[simp] theorem Tryz.sz111 : szOf Tryz.prog 111 = some 16 := by kernel_rfl
@[simp] theorem Tryz.by111 : bytesOf Tryz.prog 111 = some 152 := by kernel_rfl
@[simp] theorem Tryz.agg111 : aggOf Tryz.prog 111 = some true := by kernel_rfl
@[simp] theorem Tryz.zero111 : zeroOf Tryz.prog 111 = some [.val (.string ⟨#[]⟩), .val (.int .i64 0), .val (.int .i64 0), .val (.int .u8 0), .val (.bool false), .val (.int .i64 0), .val (.int .i64 0), .val (.int .i64 0), .val (.bool false), .val (.int .i64 0), .val (.int .i64 0), .val (.string ⟨#[]⟩), .val (.slice none 0 0), .val (.bool false), .val (.bool false), .val (.string ⟨#[]⟩)] := by kernel_rfl
@[simp] theorem Tryz.sz117 : szOf Tryz.prog 117 = some 1 := by kernel_rfl
@[simp] theorem Tryz.by117 : bytesOf Tryz.prog 117 = some 8 := by kernel_rfl
@[simp] theorem Tryz.agg117 : aggOf Tryz.prog 117 = some false := by kernel_rfl
@[simp] theorem Tryz.zero117 : zeroOf Tryz.prog 117 = some [.val (.int .u64 0)] := by kernel_rfl
@[simp] theorem Tryz.sz119 : szOf Tryz.prog 119 = some 3 := by kernel_rfl
@[simp] theorem Tryz.by119 : bytesOf Tryz.prog 119 = some 32 := by kernel_rfl
@[simp] theorem Tryz.agg119 : aggOf Tryz.prog 119 = some true := by kernel_rfl
@[simp] theorem Tryz.zero119 : zeroOf Tryz.prog 119 = some [.val (.int .u8 0), .val (.int .u64 0), .val (.string ⟨#[]⟩)] := by kernel_rfl
@[simp] theorem Tryz.sz121 : szOf Tryz.prog 121 = some 14 := by kernel_rfl
@[simp] theorem Tryz.by121 : bytesOf Tryz.prog 121 = some 168 := by kernel_rfl
@[simp] theorem Tryz.agg121 : aggOf Tryz.prog 121 = some true := by kernel_rfl
@[simp] theorem Tryz.zero121 : zeroOf Tryz.prog 121 = some [.val (.int .i64 0), .val (.int .i64 0), .val (.string ⟨#[]⟩), .val (.string ⟨#[]⟩), .val (.int .u8 0), .val (.int .u64 0), .val (.string ⟨#[]⟩), .val (.slice none 0 0), .val (.slice none 0 0), .val (.int .u8 0), .val (.int .i64 0), .val (.int .i64 0), .val (.int .i64 0), .val (.int .i64 0)] := by kernel_rfl
@[simp] theorem Tryz.sz135 : szOf Tryz.prog 135 = some 1 := by kernel_rfl
@[simp] theorem Tryz.by135 : bytesOf Tryz.prog 135 = some 8 := by kernel_rfl
@[simp] theorem Tryz.agg135 : aggOf Tryz.prog 135 = some false := by kernel_rfl
@[simp] theorem Tryz.zero135 : zeroOf Tryz.prog 135 = some [.val (.pointer none)] := by kernel_rfl
@[simp] theorem Tryz.sz137 : szOf Tryz.prog 137 = some 3 := by kernel_rfl
@[simp] theorem Tryz.by137 : bytesOf Tryz.prog 137 = some 56 := by kernel_rfl
@[simp] theorem Tryz.agg137 : aggOf Tryz.prog 137 = some true := by kernel_rfl
@[simp] theorem Tryz.zero137 : zeroOf Tryz.prog 137 = some [.val (.int .i64 0), .val (.slice none 0 0), .val (.slice none 0 0)] := by kernel_rfl
@[simp] theorem Tryz.sz145 : szOf Tryz.prog 145 = some 2 := by kernel_rfl
@[simp] theorem Tryz.by145 : bytesOf Tryz.prog 145 = some 16 := by kernel_rfl
@[simp] theorem Tryz.agg145 : aggOf Tryz.prog 145 = some true := by kernel_rfl
@[simp] theorem Tryz.zero145 : zeroOf Tryz.prog 145 = some [.val (.int .i64 0), .val (.int .i64 0)] := by kernel_rfl
@[simp] theorem Tryz.sz151 : szOf Tryz.prog 151 = some 7 := by kernel_rfl
@[simp] theorem Tryz.by151 : bytesOf Tryz.prog 151 = some 72 := by kernel_rfl
@[simp] theorem Tryz.agg151 : aggOf Tryz.prog 151 = some true := by kernel_rfl
@[simp] theorem Tryz.zero151 : zeroOf Tryz.prog 151 = some [.val (.int .i64 0), .val (.int .i64 0), .val (.int .i64 0), .val (.string ⟨#[]⟩), .val (.int .u8 0), .val (.int .u64 0), .val (.string ⟨#[]⟩)] := by kernel_rfl
@[simp] theorem Tryz.sz154 : szOf Tryz.prog 154 = some 1 := by kernel_rfl
@[simp] theorem Tryz.by154 : bytesOf Tryz.prog 154 = some 8 := by kernel_rfl
@[simp] theorem Tryz.agg154 : aggOf Tryz.prog 154 = some false := by kernel_rfl
@[simp] theorem Tryz.zero154 : zeroOf Tryz.prog 154 = some [.val (.pointer none)] := by kernel_rfl
@[simp] theorem Tryz.sz200 : szOf Tryz.prog 200 = some 1 := by kernel_rfl
@[simp] theorem Tryz.by200 : bytesOf Tryz.prog 200 = some 24 := by kernel_rfl
@[simp] theorem Tryz.agg200 : aggOf Tryz.prog 200 = some false := by kernel_rfl
@[simp] theorem Tryz.zero200 : zeroOf Tryz.prog 200 = some [.val (.slice none 0 0)] := by kernel_rfl
@[simp] theorem Tryz.sz214 : szOf Tryz.prog 214 = some 1 := by kernel_rfl
@[simp] theorem Tryz.by214 : bytesOf Tryz.prog 214 = some 8 := by kernel_rfl
@[simp] theorem Tryz.agg214 : aggOf Tryz.prog 214 = some false := by kernel_rfl
@[simp] theorem Tryz.zero214 : zeroOf Tryz.prog 214 = some [.val (.float .f64 0)] := by kernel_rfl
section
set_option maxHeartbeats 4000000
attribute [local simp ↓] wanted_at hbind_some
attribute [local simp] Gs_true Gs_false gcond_Gr Gr_true Gr_false abox frame0 int_beq int_bne aload astore partOf Keeps Same splice aUn aFieldAddr aField aBin aBinV aConvert aExtract aLen aBuild aBuild.go aalloc AS.Ext.refl AS.Ext.bump AS.Ext.setBox
def nth {α : Type} [Inhabited α] (xs : List α) (i : Int) : α := (xs[i.toNat]?).getD default
theorem idx_list {α : Type} [Inhabited α] {P : Program} {t e : TypeId} {sz c : Nat} (hu : P.underlying t = some (.slice e)) (hs : szOf P e = some sz) (f : α → List PV) (xs : List α) (i : Int) (h0 : 0 ≤ i) (h1 : i < (xs.length : Int)) :
    aIndexAddr P t (PV.sl c sz (xs.map f)) (pi i) = some (.rptr c (f (nth xs i))) := by
  have hg : (xs.map f)[i.toNat]? = some (f (nth xs i)) := by
    unfold nth
    rw [List.getElem?_map, List.getElem?_eq_getElem (show i.toNat < xs.length by omega)]; rfl
  have := sl_get (c := c) (sz := sz) hg
  rw [Int.toNat_of_nonneg h0] at this
  simp [aIndexAddr, hu, hs, this]
def byteAt (s : ByteArray) (i : Int) : Int := ((s.data.toList[i.toNat]?).getD 0).toNat
theorem idx9 (s : ByteArray) (i : Int) (h0 : 0 ≤ i) (h1 : i < (s.size : Int)) : aIndex Tryz.prog 9 (.val (.string s)) (pi i) = some (.val (.int .u8 (byteAt s i))) := by
  have hu : Tryz.prog.underlying 9 = some .string := by kernel_rfl
  have hlt : i.toNat < s.size := by omega
  have e : byteAt s i = ((s[i.toNat]'hlt).toNat : Int) := by
    unfold byteAt
    rw [List.getElem?_eq_getElem (by simpa using hlt)]; rfl
  simp [aIndex, hu, h0, hlt, e]
theorem nth_nat {α : Type} [Inhabited α] (xs : List α) (i : Nat) (h : i < xs.length) : nth xs (i : Int) = xs[i] := by
  unfold nth; rw [Int.toNat_natCast, List.getElem?_eq_getElem h]; rfl
theorem nth_in {α : Type} [Inhabited α] {xs : List α} {i : Nat} (h : i < xs.length) : nth xs (i : Int) ∈ xs := by rw [nth_nat xs i h]; exact List.getElem_mem h
theorem byteAt_lt (s : ByteArray) (i : Int) : 0 ≤ byteAt s i ∧ byteAt s i < 256 := by
  unfold byteAt; have := ((s.data.toList[i.toNat]?).getD 0).toNat_lt; omega
theorem cutAB (s : ByteArray) (a b : Int) (h0 : 0 ≤ a) (h1 : a ≤ b) (h2 : b ≤ (s.size : Int)) : aCutOp Tryz.prog 9 (.val (.string s)) (some (pi a)) (some (pi b)) = some (ps (s.extract a.toNat b.toNat)) := by
  have hu : Tryz.prog.underlying 9 = some .string := by kernel_rfl
  simp [aCutOp, cutOk, hu, aBound, acut]; omega
theorem cutA (s : ByteArray) (a : Int) (h0 : 0 ≤ a) (h2 : a ≤ (s.size : Int)) : aCutOp Tryz.prog 9 (.val (.string s)) (some (pi a)) none = some (ps (s.extract a.toNat s.size)) := by
  have hu : Tryz.prog.underlying 9 = some .string := by kernel_rfl
  simp [aCutOp, cutOk, hu, aBound, acut]; omega
theorem cutB (s : ByteArray) (b : Int) (h0 : 0 ≤ b) (h2 : b ≤ (s.size : Int)) : aCutOp Tryz.prog 9 (.val (.string s)) none (some (pi b)) = some (ps (s.extract 0 b.toNat)) := by
  have hu : Tryz.prog.underlying 9 = some .string := by kernel_rfl
  simp [aCutOp, cutOk, hu, aBound, acut]; omega
theorem ext_size (s : ByteArray) (a b : Nat) (h : a ≤ b) (h2 : b ≤ s.size) : (s.extract a b).size = b - a := by rw [ByteArray.size_extract]; omega
theorem ext_le (s : ByteArray) (a b : Nat) : (s.extract a b).size ≤ b - a := by rw [ByteArray.size_extract]; omega
theorem app_size (a b : ByteArray) : (a ++ b).size = a.size + b.size := ByteArray.size_append
@[simp] theorem bsize_mk (a : Array UInt8) : ({ data := a } : ByteArray).size = a.size := rfl
@[simp] theorem nx0 (n : Nat) : (n = n + 1 + 1) = False := by simp; omega
@[simp] theorem nx1 (n : Nat) : (n + 1 + 1 = n) = False := by simp; omega
@[simp] theorem nx2 (n : Nat) : (n = n + 1 + 1 + 1) = False := by simp; omega
@[simp] theorem nx3 (n : Nat) : (n + 1 + 1 + 1 = n) = False := by simp; omega
theorem mix : Tryz.prog.follows .mixedOrders = true := by kernel_rfl
theorem ifSome {α : Type} {p : Prop} [Decidable p] (x : α) (h : p) : (if p then some x else none) = some x := if_pos h
theorem ifNone {α : Type} {p : Prop} [Decidable p] (x : α) (h : ¬ p) : (if p then none else some x) = some x := if_neg h
@[simp] theorem rng1 : List.range 1 = [0] := rfl
@[simp] theorem rng2 : List.range 2 = [0, 1] := rfl
@[simp] theorem rng3 : List.range 3 = [0, 1, 2] := rfl
@[simp] theorem rng4 : List.range 4 = [0, 1, 2, 3] := rfl
@[simp] theorem rng5 : List.range 5 = [0, 1, 2, 3, 4] := rfl
@[simp] theorem rng6 : List.range 6 = [0, 1, 2, 3, 4, 5] := rfl
@[simp] theorem rng7 : List.range 7 = [0, 1, 2, 3, 4, 5, 6] := rfl
@[simp] theorem rng8 : List.range 8 = [0, 1, 2, 3, 4, 5, 6, 7] := rfl
@[simp] theorem rng18 : List.range 18 = [0, 1, 2, 3, 4, 5, 6, 7, 8, 9, 10, 11, 12, 13, 14, 15, 16, 17] := rfl
@[simp] theorem rng20 : List.range 20 = [0, 1, 2, 3, 4, 5, 6, 7, 8, 9, 10, 11, 12, 13, 14, 15, 16, 17, 18, 19] := rfl
theorem wu64 (x : Int) : IntKind.u64.wrap x = x % 18446744073709551616 := rfl
theorem wrap_u64 {n : Int} (h : 0 ≤ n) (h' : n < 18446744073709551616) : IntKind.u64.wrap n = n := by rw [wu64]; omega
theorem bemp : ({ data := #[] } : ByteArray) = ByteArray.empty := rfl
@[simp] theorem frozen_float (k : FloatKind) (n : Nat) : Frozen (.val (.float k n)) := trivial
@[simp] theorem below_float (m : Nat) (k : FloatKind) (n : Nat) : Below m (.val (.float k n)) := .val _
theorem catIf {α : Type} {n : Nat} (x y : α) (h : n ≤ 4611686018427387904) : (if n ≤ 4611686018427387904 then x else y) = x := if_pos h
theorem wrap_nn (x : Int) : 0 ≤ IntKind.u64.wrap x := by unfold IntKind.wrap; simp [IntKind.bits, IntKind.signed]; omega
theorem amsl {id n sz i : Nat} (h : i < n) : aindex sz (.msl id n sz) (i : Int) = some (.ptr id n i 0) := by
  unfold aindex; simp [h]
@[simp] theorem lenOf_msl (id n sz : Nat) : lenOf (.msl id n sz) = some n := rfl
def upb (b : UInt8) : UInt8 := if 97 ≤ b.toNat ∧ b.toNat ≤ 122 then b - 32 else b
def upS (s : ByteArray) : ByteArray := ⟨(s.data.toList.map upb).toArray⟩
def upRows (s : ByteArray) (i : Nat) : List (List PV) := ((s.data.toList.take i).map upb ++ s.data.toList.drop i).map brow
theorem upRows_zero (s : ByteArray) : upRows s 0 = s.data.toList.map brow := by simp [upRows]
theorem upRows_length (s : ByteArray) (i : Nat) (h : i ≤ s.size) : (upRows s i).length = s.size := by
  have : s.data.toList.length = s.size := by simp
  simp [upRows]; omega
theorem byteAt_nat (s : ByteArray) (i : Nat) (h : i < s.size) : byteAt s i = ((s.data.toList[i]'(by simpa using h)).toNat : Int) := by
  have : s.data.toList.length = s.size := by simp
  unfold byteAt
  rw [Int.toNat_natCast, List.getElem?_eq_getElem (by omega)]; rfl
theorem upRows_get (s : ByteArray) (i : Nat) (h : i < s.size) : (upRows s i)[i]? = some [.val (.int .u8 (byteAt s i))] := by
  have hl : s.data.toList.length = s.size := by simp
  unfold upRows
  rw [List.getElem?_map, List.getElem?_append_right (by simp; omega), byteAt_nat s i h]
  simp only [List.length_map, List.length_take, List.getElem?_drop]
  rw [show i + (i - min i s.data.toList.length) = i by omega, List.getElem?_eq_getElem (by omega)]
  rfl
theorem upRows_step (s : ByteArray) (i : Nat) (h : i < s.size) : (upRows s i).set i (brow (upb (s.data.toList[i]'(by simpa using h)))) = upRows s (i + 1) := by
  have hl : s.data.toList.length = s.size := by simp
  unfold upRows
  rw [← List.map_set, List.set_append_right _ _ (by simp; omega)]
  simp only [List.length_map, List.length_take]
  rw [show i - min i s.data.toList.length = 0 by omega, List.drop_eq_getElem_cons (by omega), List.set_cons_zero, List.take_succ_eq_append_getElem (by omega)]
  simp
theorem upRows_low (s : ByteArray) (i : Nat) (h : i < s.size) (h1 : 97 ≤ byteAt s i) (h2 : byteAt s i ≤ 122) : (upRows s i).set i [.val (.int .u8 (byteAt s i - 32))] = upRows s (i + 1) := by
  rw [← upRows_step s i h]
  rw [byteAt_nat s i h] at h1 h2 ⊢
  unfold upb brow
  rw [if_pos (by omega)]
  have : (s.data.toList[i]'(by simpa using h) - 32).toNat = (s.data.toList[i]'(by simpa using h)).toNat - 32 := by
    rw [UInt8.toNat_sub_of_le _ _ (by rw [UInt8.le_iff_toNat_le]; show 32 ≤ _; omega)]; rfl
  rw [this]
  congr 5
  omega
theorem upRows_high (s : ByteArray) (i : Nat) (h : i < s.size) (h1 : ¬ (97 ≤ byteAt s i ∧ byteAt s i ≤ 122)) : upRows s i = upRows s (i + 1) := by
  rw [← upRows_step s i h]
  have hg := upRows_get s i h
  rw [byteAt_nat s i h] at h1 hg
  unfold upb
  rw [if_neg (by omega)]
  obtain ⟨hi, e⟩ := List.getElem?_eq_some_iff.1 hg
  rw [show brow (s.data.toList[i]'(by simpa using h)) = (upRows s i)[i] from e.symm, List.set_getElem_self]
theorem upRows_all (s : ByteArray) : bytesOfRows (upRows s s.size) = some (s.data.toList.map upb) := by
  have hl : s.data.toList.length = s.size := by simp
  unfold upRows
  rw [List.take_of_length_le (by omega), List.drop_eq_nil_of_le (by omega), List.append_nil]
  exact bytesOfRows_map _
theorem under200 : Tryz.prog.underlying 200 = some (.slice 5) := by kernel_rfl
theorem under5 : Tryz.prog.underlying 5 = some (.int .u8) := by kernel_rfl
theorem under9 : Tryz.prog.underlying 9 = some .string := by kernel_rfl
theorem size5 : szOf Tryz.prog 5 = some 1 := by kernel_rfl
theorem toBytes (H : AS) (s : ByteArray) : aToBytes Tryz.prog H 9 200 (.val (.string s)) = some (.msl H.next s.size 1, (H.setBox H.next (s.data.toList.map brow)).bump 1) := by
  unfold aToBytes; rw [under9, under200]; simp only [under5]
theorem conv9200 (s : ByteArray) : aConvert Tryz.prog 9 200 (.val (.string s)) = none ∧ aToString Tryz.prog 9 200 (.val (.string s)) = none ∧ ∀ H, aToStringM Tryz.prog H 9 200 (.val (.string s)) = none := by
  refine ⟨?_, ?_, fun H => ?_⟩
  · unfold aConvert; rw [under9, under200]
  · unfold aToString; rw [under9, under200]
  · unfold aToStringM; rw [under9, under200]
theorem conv2009 (id n sz : Nat) : aConvert Tryz.prog 200 9 (.msl id n sz) = none ∧ aToString Tryz.prog 200 9 (.msl id n sz) = none := by
  refine ⟨?_, ?_⟩
  · unfold aConvert; rw [under9, under200]
  · unfold aToString; rw [under9, under200]
theorem toStr {H : AS} {id n : Nat} {rows : List (List PV)} {l : List UInt8} (hb : H.box id = some rows) (hl : rows.length = n) (h : bytesOfRows rows = some l) : aToStringM Tryz.prog H 200 9 (.msl id n 1) = some (.val (.string ⟨l.toArray⟩)) := by
  unfold aToStringM; rw [under9, under200]; simp only [under5, hb, hl, h, and_self, if_true, Option.map_some]
theorem idx200 (id n i : Nat) (h : i < n) : aIndexAddr Tryz.prog 200 (.msl id n 1) (pi i) = some (.ptr id n i 0) := by
  unfold aIndexAddr; rw [under200]; simp [size5, amsl h]
theorem wBlank (H : AS) (c : Int) : ACalls Tryz.prog 99 [.val (.int .u8 c)] H fun q H' => (∃ b : Bool, q = pb b) ∧ H' = H := by
  refine ACalls_intro Tryz.func99 rfl (by kernel_rfl) (by simp) fun hwf hbel => ?_
  repeat' first
    | refine T_seq ?_
    | refine T_rgn ?_
    | refine T_cd ?_
    | refine T_sk ?_
    | refine T_rt ?_
    | refine T_block ?_
    | refine T_ex ?_
    | refine Kt_then ?_
    | refine Kt_block ?_
    | refine Kr_then ?_
    | refine Kr_block ?_
    | refine Ke_here ?_
    | refine Ke_then ?_
    | refine Hid.mk ?_
    | refine Gs.mk (fun g => ?_) (fun g => ?_) <;> (try simp only [nm] at g) <;> try (exfalso; omega)
    | refine Gr.mk (fun g => ?_) (fun g => ?_) <;> (try simp only [nm] at g) <;> try (exfalso; omega)
    | (refine Run.of ?_; simp (maxSteps := 1000000) (disch := first | omega | assumption | (simp; done) | fail) [*])
  all_goals (refine Kx.mk ?_; refine owes_r (l := [.tmp 2]) (.inr rfl) hwf rfl ?_ ?_ <;> (try simp (maxDischargeDepth := 20) [resP, packed, plain1_agg, plain1_sl, bemp, and_assoc, aload, partOf, *]) <;> (try ((repeat' apply And.intro) <;> first | omega | fail)))
theorem wLetter (H : AS) (c : Int) : ACalls Tryz.prog 103 [.val (.int .u8 c)] H fun q H' => (∃ b : Bool, q = pb b) ∧ H' = H := by
  refine ACalls_intro Tryz.func103 rfl (by kernel_rfl) (by simp) fun hwf hbel => ?_
  repeat' first
    | refine T_seq ?_
    | refine T_rgn ?_
    | refine T_cd ?_
    | refine T_sk ?_
    | refine T_rt ?_
    | refine T_block ?_
    | refine T_ex ?_
    | refine Kt_then ?_
    | refine Kt_block ?_
    | refine Kr_then ?_
    | refine Kr_block ?_
    | refine Ke_here ?_
    | refine Ke_then ?_
    | refine Hid.mk ?_
    | refine Gs.mk (fun g => ?_) (fun g => ?_) <;> (try simp only [nm] at g) <;> try (exfalso; omega)
    | refine Gr.mk (fun g => ?_) (fun g => ?_) <;> (try simp only [nm] at g) <;> try (exfalso; omega)
    | (refine Run.of ?_; simp (maxSteps := 1000000) (disch := first | omega | assumption | (simp; done) | fail) [*])
  all_goals (refine Kx.mk ?_; refine owes_r (l := [.tmp 2]) (.inr rfl) hwf rfl ?_ ?_ <;> (try simp (maxDischargeDepth := 20) [resP, packed, plain1_agg, plain1_sl, bemp, and_assoc, aload, partOf, *]) <;> (try ((repeat' apply And.intro) <;> first | omega | fail)))
theorem wDigit (H : AS) (c : Int) : ACalls Tryz.prog 105 [.val (.int .u8 c)] H fun q H' => (∃ b : Bool, q = pb b) ∧ H' = H := by
  refine ACalls_intro Tryz.func105 rfl (by kernel_rfl) (by simp) fun hwf hbel => ?_
  repeat' first
    | refine T_seq ?_
    | refine T_rgn ?_
    | refine T_cd ?_
    | refine T_sk ?_
    | refine T_rt ?_
    | refine T_block ?_
    | refine T_ex ?_
    | refine Kt_then ?_
    | refine Kt_block ?_
    | refine Kr_then ?_
    | refine Kr_block ?_
    | refine Ke_here ?_
    | refine Ke_then ?_
    | refine Hid.mk ?_
    | refine Gs.mk (fun g => ?_) (fun g => ?_) <;> (try simp only [nm] at g) <;> try (exfalso; omega)
    | refine Gr.mk (fun g => ?_) (fun g => ?_) <;> (try simp only [nm] at g) <;> try (exfalso; omega)
    | (refine Run.of ?_; simp (maxSteps := 1000000) (disch := first | omega | assumption | (simp; done) | fail) [*])
  all_goals (refine Kx.mk ?_; refine owes_r (l := [.tmp 2]) (.inr rfl) hwf rfl ?_ ?_ <;> (try simp (maxDischargeDepth := 20) [resP, packed, plain1_agg, plain1_sl, bemp, and_assoc, aload, partOf, *]) <;> (try ((repeat' apply And.intro) <;> first | omega | fail)))
theorem wInner (H : AS) (c : Int) : ACalls Tryz.prog 128 [.val (.int .u8 c)] H fun q H' => (∃ b : Bool, q = pb b) ∧ H' = H := by
  refine ACalls_intro Tryz.func128 rfl (by kernel_rfl) (by simp) fun hwf hbel => ?_
  repeat' first
    | refine T_seq ?_
    | refine T_rgn ?_
    | refine T_cd ?_
    | refine T_sk ?_
    | refine T_rt ?_
    | refine T_block ?_
    | refine T_ex ?_
    | refine Kt_then ?_
    | refine Kt_block ?_
    | refine Kr_then ?_
    | refine Kr_block ?_
    | refine Ke_here ?_
    | refine Ke_then ?_
    | refine Hid.mk ?_
    | (refine callR (wLetter _ _) ?_; rintro _ Hz ⟨⟨_, rfl⟩, hz⟩; subst Hz)
    | (refine callR (wDigit _ _) ?_; rintro _ Hz ⟨⟨_, rfl⟩, hz⟩; subst Hz)
    | refine Gs.mk (fun g => ?_) (fun g => ?_) <;> (try simp only [nm] at g) <;> try (exfalso; omega)
    | refine Gr.mk (fun g => ?_) (fun g => ?_) <;> (try simp only [nm] at g) <;> try (exfalso; omega)
    | (refine Run.of ?_; simp (maxSteps := 1000000) (disch := first | omega | assumption | (simp; done) | fail) [*])
  all_goals (refine Kx.mk ?_; refine owes_r (l := [.tmp 2]) (.inr rfl) hwf rfl ?_ ?_ <;> (try simp (maxDischargeDepth := 20) [resP, packed, plain1_agg, plain1_sl, bemp, and_assoc, aload, partOf, *]) <;> (try ((repeat' apply And.intro) <;> first | omega | fail)))
set_option maxHeartbeats 4000000
theorem under73 : Tryz.prog.underlying 73 = some (.slice 151) := by kernel_rfl
theorem idx73 (c : Nat) (x : List PV) (l : List (List PV)) : aIndexAddr Tryz.prog 73 (PV.sl c 7 (x :: l)) (pi 0) = some (.rptr c x) := by
  unfold aIndexAddr; rw [under73]; simp [PV.sl, aindex]
theorem cut73 (c : Nat) (x : List PV) (l : List (List PV)) (hc : c < 2) : aCutOp Tryz.prog 73 (PV.sl c 7 (x :: l)) (some (pi 1)) none = some (PV.sl c 7 l) := by
  simp only [aCutOp, cutOk, under73, aBound, acut, PV.sl, Tryz.sz151, Option.bind_some]
  simp [acut, PV.sl, hc]; omega
theorem lenNilS : lenOf PV.nilS = some 0 := rfl
theorem rHere (H : AS) (id c : Nat) (en : Int) (r : LRd) (hb : H.box id = some [r.row c en]) : ACalls Tryz.prog 27 [.ptr id 1 0 0] H fun q H' => (∃ x : Int, q = pi x) ∧ H' = H := by
  obtain ⟨_ | ⟨t, l⟩, tk, w, pl, d⟩ := r
  all_goals simp only [LRd.row_mk, List.map_nil, List.map_cons, LTok.row] at hb
  all_goals by_cases hw : w = 0
  all_goals (refine ACalls_intro Tryz.func27 rfl (by kernel_rfl) (by simp) fun hwf hbel => ?_)
  all_goals have hid := (hwf.box _ _ hb).1
  all_goals have hid1 : ¬ id = H.next := by omega
  all_goals have hid2 : ¬ id = H.next + 1 := by omega
  all_goals have hid3 : ¬ H.next = id := by omega
  all_goals have hid4 : ¬ H.next + 1 = id := by omega
  all_goals (
    repeat' first
      | refine T_seq ?_
      | refine T_rgn ?_
      | refine T_cd ?_
      | refine T_sk ?_
      | refine T_rt ?_
      | refine T_block ?_
      | refine T_ex ?_
      | refine Kt_then ?_
      | refine Kt_block ?_
      | refine Kr_then ?_
      | refine Kr_block ?_
      | refine Ke_here ?_
      | refine Ke_then ?_
      | refine Hid.mk ?_
      | refine Gs.mk (fun g => ?_) (fun g => ?_) <;> (try simp only [nm] at g) <;> try (exfalso; first | contradiction | omega)
      | refine Gr.mk (fun g => ?_) (fun g => ?_) <;> (try simp only [nm] at g) <;> try (exfalso; first | contradiction | omega)
      | (refine Run.of ?_; simp (maxSteps := 1000000) (disch := first | omega | assumption | (simp; done) | fail) [*, lenNilS, idx73, cut73, LTok.row]))
  all_goals (refine Kx.mk ?_; refine owes_r (l := [.tmp 2]) (.inr rfl) hwf rfl (by first | (simp (maxDischargeDepth := 20) [*]; done) | (repeat (first | exact AS.Ext.refl _ | assumption | refine AS.Ext.bump ?_ | refine AS.Ext.setBox (by first | omega | (simp; omega) | (simp; done)) ?_))) ?_ <;> (try simp (maxDischargeDepth := 20) [resP, packed, plain1_agg, plain1_sl, bemp, and_assoc, aload, partOf, *]) <;> (try ((repeat' apply And.intro) <;> first | omega | fail)))
theorem rIs (H : AS) (id c : Nat) (en : Int) (r : LRd) (hb : H.box id = some [r.row c en]) (s : ByteArray) : ACalls Tryz.prog 29 [.ptr id 1 0 0, ps s] H fun q H' => (∃ b : Bool, q = pb b ∧ (b = true → r.why = 0 ∧ ¬ r.toks = [])) ∧ H' = H := by
  obtain ⟨_ | ⟨t, l⟩, tk, w, pl, d⟩ := r
  all_goals simp only [LRd.row_mk, List.map_nil, List.map_cons, LTok.row] at hb
  all_goals by_cases hw : w = 0
  all_goals (refine ACalls_intro Tryz.func29 rfl (by kernel_rfl) (by simp) fun hwf hbel => ?_)
  all_goals have hid := (hwf.box _ _ hb).1
  all_goals have hid1 : ¬ id = H.next := by omega
  all_goals have hid2 : ¬ id = H.next + 1 := by omega
  all_goals have hid3 : ¬ H.next = id := by omega
  all_goals have hid4 : ¬ H.next + 1 = id := by omega
  all_goals (
    repeat' first
      | refine T_seq ?_
      | refine T_rgn ?_
      | refine T_cd ?_
      | refine T_sk ?_
      | refine T_rt ?_
      | refine T_block ?_
      | refine T_ex ?_
      | refine Kt_then ?_
      | refine Kt_block ?_
      | refine Kr_then ?_
      | refine Kr_block ?_
      | refine Ke_here ?_
      | refine Ke_then ?_
      | refine Hid.mk ?_
      | refine Gs.mk (fun g => ?_) (fun g => ?_) <;> (try simp only [nm] at g) <;> try (exfalso; first | contradiction | omega)
      | refine Gr.mk (fun g => ?_) (fun g => ?_) <;> (try simp only [nm] at g) <;> try (exfalso; first | contradiction | omega)
      | (refine Run.of ?_; simp (maxSteps := 1000000) (disch := first | omega | assumption | (simp; done) | fail) [*, lenNilS, idx73, cut73, LTok.row]))
  all_goals (refine Kx.mk ?_; refine owes_r (l := [.tmp 4]) (.inr rfl) hwf rfl (by first | (simp (maxDischargeDepth := 20) [*]; done) | (repeat (first | exact AS.Ext.refl _ | assumption | refine AS.Ext.bump ?_ | refine AS.Ext.setBox (by first | omega | (simp; omega) | (simp; done)) ?_))) ?_ <;> (try simp (maxDischargeDepth := 20) [resP, packed, plain1_agg, plain1_sl, bemp, and_assoc, aload, partOf, *]) <;> (try ((repeat' apply And.intro) <;> first | omega | fail)))
theorem rKind (H : AS) (id c : Nat) (en : Int) (r : LRd) (hb : H.box id = some [r.row c en]) : ACalls Tryz.prog 74 [.ptr id 1 0 0] H fun q H' => (∃ x : Int, q = pi x ∧ (¬ x = 0 → r.why = 0 ∧ ¬ r.toks = [])) ∧ H' = H := by
  obtain ⟨_ | ⟨t, l⟩, tk, w, pl, d⟩ := r
  all_goals simp only [LRd.row_mk, List.map_nil, List.map_cons, LTok.row] at hb
  all_goals by_cases hw : w = 0
  all_goals (refine ACalls_intro Tryz.func74 rfl (by kernel_rfl) (by simp) fun hwf hbel => ?_)
  all_goals have hid := (hwf.box _ _ hb).1
  all_goals have hid1 : ¬ id = H.next := by omega
  all_goals have hid2 : ¬ id = H.next + 1 := by omega
  all_goals have hid3 : ¬ H.next = id := by omega
  all_goals have hid4 : ¬ H.next + 1 = id := by omega
  all_goals (
    repeat' first
      | refine T_seq ?_
      | refine T_rgn ?_
      | refine T_cd ?_
      | refine T_sk ?_
      | refine T_rt ?_
      | refine T_block ?_
      | refine T_ex ?_
      | refine Kt_then ?_
      | refine Kt_block ?_
      | refine Kr_then ?_
      | refine Kr_block ?_
      | refine Ke_here ?_
      | refine Ke_then ?_
      | refine Hid.mk ?_
      | refine Gs.mk (fun g => ?_) (fun g => ?_) <;> (try simp only [nm] at g) <;> try (exfalso; first | contradiction | omega)
      | refine Gr.mk (fun g => ?_) (fun g => ?_) <;> (try simp only [nm] at g) <;> try (exfalso; first | contradiction | omega)
      | (refine Run.of ?_; simp (maxSteps := 1000000) (disch := first | omega | assumption | (simp; done) | fail) [*, lenNilS, idx73, cut73, LTok.row]))
  all_goals (refine Kx.mk ?_; refine owes_r (l := [.tmp 2]) (.inr rfl) hwf rfl (by first | (simp (maxDischargeDepth := 20) [*]; done) | (repeat (first | exact AS.Ext.refl _ | assumption | refine AS.Ext.bump ?_ | refine AS.Ext.setBox (by first | omega | (simp; omega) | (simp; done)) ?_))) ?_ <;> (try simp (maxDischargeDepth := 20) [resP, packed, plain1_agg, plain1_sl, bemp, and_assoc, aload, partOf, *]) <;> (try ((repeat' apply And.intro) <;> first | omega | fail)))
theorem rFail (H : AS) (id c : Nat) (en : Int) (r : LRd) (hb : H.box id = some [r.row c en]) (e a : Int) : ACalls Tryz.prog 73 [.ptr id 1 0 0, pi e, pi a] H fun q H' => q = .tuple [] ∧ H' = H.setBox id [(r.fail e a).row c en] := by
  obtain ⟨_ | ⟨t, l⟩, tk, w, pl, d⟩ := r
  all_goals simp only [LRd.row_mk, List.map_nil, List.map_cons, LTok.row] at hb
  all_goals unfold LRd.fail
  all_goals by_cases hw : w = 0
  all_goals (refine ACalls_intro Tryz.func73 rfl (by kernel_rfl) (by simp) fun hwf hbel => ?_)
  all_goals have hid := (hwf.box _ _ hb).1
  all_goals have hid1 : ¬ id = H.next := by omega
  all_goals have hid2 : ¬ id = H.next + 1 := by omega
  all_goals have hid3 : ¬ H.next = id := by omega
  all_goals have hid4 : ¬ H.next + 1 = id := by omega
  all_goals (
    repeat' first
      | refine T_seq ?_
      | refine T_rgn ?_
      | refine T_cd ?_
      | refine T_sk ?_
      | refine T_rt ?_
      | refine T_block ?_
      | refine T_ex ?_
      | refine Kt_then ?_
      | refine Kt_block ?_
      | refine Kr_then ?_
      | refine Kr_block ?_
      | refine Ke_here ?_
      | refine Ke_then ?_
      | refine Hid.mk ?_
      | refine Gs.mk (fun g => ?_) (fun g => ?_) <;> (try simp only [nm] at g) <;> try (exfalso; first | contradiction | omega)
      | refine Gr.mk (fun g => ?_) (fun g => ?_) <;> (try simp only [nm] at g) <;> try (exfalso; first | contradiction | omega)
      | (refine Run.of ?_; simp (maxSteps := 1000000) (disch := first | omega | assumption | (simp; done) | fail) [*, lenNilS, idx73, cut73, LTok.row]))
  all_goals (try simp only [hw, if_true, if_false, ne_eq, not_false_eq_true])
  all_goals first | (((first | refine Kx.mk ?_ | refine Kt.mk ?_); refine owes_at (l := []) (H1 := H.setBox id [LRd.row c en ⟨[], tk, e, a, d⟩]) (by first | exact .inr rfl | exact .inl rfl) (wf_set hwf hb (LRd.below _ _ _ _)) (by simp) rfl ⟨by first | omega | (simp; done) | (simp; omega), fun j hj => by (simp only [next_setBox] at hj; have e1 : ¬ j = H.next := (by omega); have e2 : ¬ j = H.next + 1 := (by omega); by_cases e3 : j = id <;> simp [e3, box_setBox, e1, e2, show ¬ id = H.next by omega, show ¬ id = H.next + 1 by omega, LRd.row_mk, LTok.row, hb]), fun j hj => by simp, by simp⟩ ?_ <;> (try simp (maxDischargeDepth := 20) [resP, packed, plain1_agg, plain1_sl, aload, partOf, LRd.row_mk, LTok.row, *])); done) | (((first | refine Kx.mk ?_ | refine Kt.mk ?_); refine owes_at (l := []) (H1 := H.setBox id [LRd.row c en ⟨t :: l, tk, e, a, d⟩]) (by first | exact .inr rfl | exact .inl rfl) (wf_set hwf hb (LRd.below _ _ _ _)) (by simp) rfl ⟨by first | omega | (simp; done) | (simp; omega), fun j hj => by (simp only [next_setBox] at hj; have e1 : ¬ j = H.next := (by omega); have e2 : ¬ j = H.next + 1 := (by omega); by_cases e3 : j = id <;> simp [e3, box_setBox, e1, e2, show ¬ id = H.next by omega, show ¬ id = H.next + 1 by omega, LRd.row_mk, LTok.row, hb]), fun j hj => by simp, by simp⟩ ?_ <;> (try simp (maxDischargeDepth := 20) [resP, packed, plain1_agg, plain1_sl, aload, partOf, LRd.row_mk, LTok.row, *])); done) | (((first | refine Kx.mk ?_ | refine Kt.mk ?_); refine owes_at (l := []) (H1 := H.setBox id [LRd.row c en ⟨[], tk, w, pl, d⟩]) (by first | exact .inr rfl | exact .inl rfl) (wf_set hwf hb (LRd.below _ _ _ _)) (by simp) rfl ⟨by first | omega | (simp; done) | (simp; omega), fun j hj => by (simp only [next_setBox] at hj; have e1 : ¬ j = H.next := (by omega); have e2 : ¬ j = H.next + 1 := (by omega); by_cases e3 : j = id <;> simp [e3, box_setBox, e1, e2, show ¬ id = H.next by omega, show ¬ id = H.next + 1 by omega, LRd.row_mk, LTok.row, hb]), fun j hj => by simp, by simp⟩ ?_ <;> (try simp (maxDischargeDepth := 20) [resP, packed, plain1_agg, plain1_sl, aload, partOf, LRd.row_mk, LTok.row, *])); done) | (((first | refine Kx.mk ?_ | refine Kt.mk ?_); refine owes_at (l := []) (H1 := H.setBox id [LRd.row c en ⟨t :: l, tk, w, pl, d⟩]) (by first | exact .inr rfl | exact .inl rfl) (wf_set hwf hb (LRd.below _ _ _ _)) (by simp) rfl ⟨by first | omega | (simp; done) | (simp; omega), fun j hj => by (simp only [next_setBox] at hj; have e1 : ¬ j = H.next := (by omega); have e2 : ¬ j = H.next + 1 := (by omega); by_cases e3 : j = id <;> simp [e3, box_setBox, e1, e2, show ¬ id = H.next by omega, show ¬ id = H.next + 1 by omega, LRd.row_mk, LTok.row, hb]), fun j hj => by simp, by simp⟩ ?_ <;> (try simp (maxDischargeDepth := 20) [resP, packed, plain1_agg, plain1_sl, aload, partOf, LRd.row_mk, LTok.row, *])); done)
theorem rNext (H : AS) (id c : Nat) (en : Int) (r : LRd) (hb : H.box id = some [r.row c en]) (h : ¬ r.toks = []) : ACalls Tryz.prog 90 [.ptr id 1 0 0] H fun q H' => (∃ t : LTok, q = .agg t.row ∧ (r.good → t.ok)) ∧ H' = H.setBox id [r.pop.row c en] := by
  obtain ⟨_ | ⟨t, l⟩, tk, w, pl, d⟩ := r
  all_goals simp only [LRd.row_mk, List.map_nil, List.map_cons, LTok.row] at hb
  · exact absurd rfl h
  all_goals (refine ACalls_intro Tryz.func90 rfl (by kernel_rfl) (by simp) fun hwf hbel => ?_)
  all_goals have hid := (hwf.box _ _ hb).1
  all_goals have hid1 : ¬ id = H.next := by omega
  all_goals have hid2 : ¬ id = H.next + 1 := by omega
  all_goals have hid3 : ¬ H.next = id := by omega
  all_goals have hid4 : ¬ H.next + 1 = id := by omega
  all_goals (
    repeat' first
      | refine T_seq ?_
      | refine T_rgn ?_
      | refine T_cd ?_
      | refine T_sk ?_
      | refine T_rt ?_
      | refine T_block ?_
      | refine T_ex ?_
      | refine Kt_then ?_
      | refine Kt_block ?_
      | refine Kr_then ?_
      | refine Kr_block ?_
      | refine Ke_here ?_
      | refine Ke_then ?_
      | refine Hid.mk ?_
      | refine Gs.mk (fun g => ?_) (fun g => ?_) <;> (try simp only [nm] at g) <;> try (exfalso; first | contradiction | omega)
      | refine Gr.mk (fun g => ?_) (fun g => ?_) <;> (try simp only [nm] at g) <;> try (exfalso; first | contradiction | omega)
      | (refine Run.of ?_; simp (maxSteps := 1000000) (disch := first | omega | assumption | (simp; done) | fail) [*, lenNilS, idx73, cut73, LTok.row]))
  all_goals (refine Kx.mk ?_); all_goals refine Owes.mono (k := fun q H' => q = .agg t.row ∧ H' = H.setBox id [LRd.row c en ⟨l, IntKind.i64.wrap (tk + 1), w, pl, d⟩]) (fun q H' hq => ⟨⟨t, hq.1, fun g => g t (by simp)⟩, hq.2⟩) ?_
  all_goals (refine owes_at (l := [.cell 2 151]) (H1 := H.setBox id [LRd.row c en ⟨l, IntKind.i64.wrap (tk + 1), w, pl, d⟩]) (by first | exact .inr rfl | exact .inl rfl) (wf_set hwf hb (LRd.below _ _ _ _)) (by simp) rfl ⟨by first | omega | (simp; done) | (simp; omega), fun j hj => by (simp only [next_setBox] at hj; have e1 : ¬ j = H.next := (by omega); have e2 : ¬ j = H.next + 1 := (by omega); by_cases e3 : j = id <;> simp [e3, box_setBox, e1, e2, show ¬ id = H.next by omega, show ¬ id = H.next + 1 by omega, LRd.row_mk, LTok.row, hb]), fun j hj => by simp, by simp⟩ ?_ <;> (try simp (maxDischargeDepth := 20) [resP, packed, plain1_agg, plain1_sl, aload, partOf, LRd.row_mk, LTok.row, *]))
set_option maxHeartbeats 4000000
theorem box_self (H : AS) (id : Nat) (r : List (List PV)) : (H.setBox id r).box id = some r := by simp
@[simp] theorem tok_len (t : LTok) : t.row.length = 7 := rfl
theorem tok3 (t : LTok) : t.row[3]? = some (ps t.text) := rfl
theorem LTok.frozen (t : LTok) : ∀ x ∈ t.row, Frozen x := by simp [LTok.row, Frozen]
theorem rHave (H : AS) (id c : Nat) (en : Int) (r : LRd) (hb : H.box id = some [r.row c en]) (s : ByteArray) : ACalls Tryz.prog 48 [.ptr id 1 0 0, ps s] H fun q H' => ∃ (b : Bool) (r' : LRd), q = pb b ∧ r.to r' ∧ (b = true → r'.mu < r.mu) ∧ H' = H.setBox id [r'.row c en] := by
  skip
  all_goals (refine ACalls_intro Tryz.func48 rfl (by kernel_rfl) (by simp) fun hwf hbel => ?_)
  all_goals have hid := (hwf.box _ _ hb).1
  all_goals have hid1 : ¬ id = H.next := by omega
  all_goals have hid2 : ¬ id = H.next + 1 := by omega
  all_goals have hid3 : ¬ H.next = id := by omega
  all_goals have hid4 : ¬ H.next + 1 = id := by omega
  all_goals (
    repeat' first
      | refine T_seq ?_
      | refine T_rgn ?_
      | refine T_cd ?_
      | refine T_sk ?_
      | refine T_rt ?_
      | refine T_block ?_
      | refine T_ex ?_
      | refine Kt_then ?_
      | refine Kt_block ?_
      | refine Kr_then ?_
      | refine Kr_block ?_
      | refine Ke_here ?_
      | refine Ke_then ?_
      | refine Hid.mk ?_
      | (refine callR (rIs _ _ _ _ _ (by first | assumption | exact box_self _ _ _) _) ?_; rintro _ Hz ⟨⟨ib, rfl, hib⟩, hz⟩; subst Hz)
      | (refine callR (rNext _ _ _ _ _ (by first | assumption | exact box_self _ _ _) (by first | exact (hib (by assumption)).2 | exact (hkn (by omega)).2)) ?_; rintro _ Hz ⟨⟨tn, rfl, htn⟩, hz⟩; subst Hz)
      | refine Gs.mk (fun g => ?_) (fun g => ?_) <;> (try simp only [nm] at g) <;> try (exfalso; first | contradiction | omega)
      | refine Gr.mk (fun g => ?_) (fun g => ?_) <;> (try simp only [nm] at g) <;> try (exfalso; first | contradiction | omega)
      | (refine Run.of ?_; simp (maxSteps := 1000000) (disch := first | omega | assumption | (simp; done) | fail) [*]))
  all_goals first
    | ((first | refine Kx.mk ?_ | refine Kt.mk ?_); refine Owes.mono (k := fun q H' => q = pb false ∧ H' = H.setBox id [LRd.row c en (r)]) (fun q H' hq => ⟨false, r, hq.1, .refl r, by simp, hq.2⟩) ?_; (refine owes_at (l := [.tmp 4]) (H1 := H.setBox id [LRd.row c en (r)]) (by first | exact .inr rfl | exact .inl rfl) (wf_set hwf hb (LRd.below _ _ _ _)) (by simp) rfl ⟨by first | omega | (simp; done) | (simp; omega), fun j hj => by (simp only [next_setBox] at hj; have e1 : ¬ j = H.next := (by omega); have e2 : ¬ j = H.next + 1 := (by omega); by_cases e3 : j = id <;> simp [e3, box_setBox, e1, e2, show ¬ id = H.next by omega, show ¬ id = H.next + 1 by omega, LRd.row_mk, LTok.row, hb]), fun j hj => by simp, by simp⟩ ?_ <;> (try simp (maxDischargeDepth := 20) [resP, packed, plain1_agg, plain1_sl, aload, partOf, LRd.row_mk, LTok.row, *])); done)
    | ((first | refine Kx.mk ?_ | refine Kt.mk ?_); refine Owes.mono (k := fun q H' => q = pb true ∧ H' = H.setBox id [LRd.row c en (r.pop)]) (fun q H' hq => ⟨true, r.pop, hq.1, LRd.to_pop (hib (by assumption)).2, fun _ => LRd.mu_pop (hib (by assumption)).2 (hib (by assumption)).1, hq.2⟩) ?_; (refine owes_at (l := [.tmp 4]) (H1 := H.setBox id [LRd.row c en (r.pop)]) (by first | exact .inr rfl | exact .inl rfl) (wf_set hwf hb (LRd.below _ _ _ _)) (by simp) rfl ⟨by first | omega | (simp; done) | (simp; omega), fun j hj => by (simp only [next_setBox] at hj; have e1 : ¬ j = H.next := (by omega); have e2 : ¬ j = H.next + 1 := (by omega); by_cases e3 : j = id <;> simp [e3, box_setBox, e1, e2, show ¬ id = H.next by omega, show ¬ id = H.next + 1 by omega, LRd.row_mk, LTok.row, hb]), fun j hj => by simp, by simp⟩ ?_ <;> (try simp (maxDischargeDepth := 20) [resP, packed, plain1_agg, plain1_sl, aload, partOf, LRd.row_mk, LTok.row, *])); done)
theorem rMust (H : AS) (id c : Nat) (en : Int) (r : LRd) (hb : H.box id = some [r.row c en]) (s : ByteArray) : ACalls Tryz.prog 28 [.ptr id 1 0 0, ps s] H fun q H' => ∃ (r' : LRd), q = .tuple [] ∧ r.to r' ∧ (r'.mu < r.mu ∨ r'.mu = 0) ∧ H' = H.setBox id [r'.row c en] := by
  skip
  all_goals (refine ACalls_intro Tryz.func28 rfl (by kernel_rfl) (by simp) fun hwf hbel => ?_)
  all_goals have hid := (hwf.box _ _ hb).1
  all_goals have hid1 : ¬ id = H.next := by omega
  all_goals have hid2 : ¬ id = H.next + 1 := by omega
  all_goals have hid3 : ¬ H.next = id := by omega
  all_goals have hid4 : ¬ H.next + 1 = id := by omega
  all_goals (
    repeat' first
      | refine T_seq ?_
      | refine T_rgn ?_
      | refine T_cd ?_
      | refine T_sk ?_
      | refine T_rt ?_
      | refine T_block ?_
      | refine T_ex ?_
      | refine Kt_then ?_
      | refine Kt_block ?_
      | refine Kr_then ?_
      | refine Kr_block ?_
      | refine Ke_here ?_
      | refine Ke_then ?_
      | refine Hid.mk ?_
      | (refine callR (rHave _ _ _ _ _ (by first | assumption | exact box_self _ _ _) _) ?_; rintro _ Hz ⟨vb1, q1, rfl, hto1, hmu1, hz⟩; subst Hz)
      | (refine callR (rHere _ _ _ _ _ (by first | assumption | exact box_self _ _ _)) ?_; rintro _ Hz ⟨⟨hx, rfl⟩, hz⟩; subst Hz)
      | (refine callR (rFail _ _ _ _ _ (by first | assumption | exact box_self _ _ _) _ _) ?_; rintro _ Hz ⟨rfl, hz⟩; subst Hz)
      | refine Gs.mk (fun g => ?_) (fun g => ?_) <;> (try simp only [nm] at g) <;> try (exfalso; first | contradiction | omega)
      | refine Gr.mk (fun g => ?_) (fun g => ?_) <;> (try simp only [nm] at g) <;> try (exfalso; first | contradiction | omega)
      | (refine Run.of ?_; simp (maxSteps := 1000000) (disch := first | omega | assumption | (simp; done) | fail) [*, setBox_setBox']))
  all_goals first
    | ((first | refine Kx.mk ?_ | refine Kt.mk ?_); refine Owes.mono (k := fun q H' => q = .tuple [] ∧ H' = H.setBox id [LRd.row c en (q1)]) (fun q H' hq => ⟨q1, hq.1, hto1, .inl (hmu1 (by assumption)), hq.2⟩) ?_; (refine owes_at (l := []) (H1 := H.setBox id [LRd.row c en (q1)]) (by first | exact .inr rfl | exact .inl rfl) (wf_set hwf hb (LRd.below _ _ _ _)) (by simp) rfl ⟨by first | omega | (simp; done) | (simp; omega), fun j hj => by (simp only [next_setBox] at hj; have e1 : ¬ j = H.next := (by omega); have e2 : ¬ j = H.next + 1 := (by omega); by_cases e3 : j = id <;> simp [e3, box_setBox, e1, e2, show ¬ id = H.next by omega, show ¬ id = H.next + 1 by omega, LRd.row_mk, LTok.row, hb]), fun j hj => by simp, by simp⟩ ?_ <;> (try simp (maxDischargeDepth := 20) [resP, packed, plain1_agg, plain1_sl, aload, partOf, LRd.row_mk, LTok.row, *])); done)
    | ((first | refine Kx.mk ?_ | refine Kt.mk ?_); refine Owes.mono (k := fun q H' => q = .tuple [] ∧ H' = H.setBox id [LRd.row c en (q1.fail 50 hx)]) (fun q H' hq => ⟨_, hq.1, hto1.trans (LRd.to_fail _ _ (by decide) _), .inr (LRd.mu_fail _ _ (by decide) _), hq.2⟩) ?_; (refine owes_at (l := []) (H1 := H.setBox id [LRd.row c en (q1.fail 50 hx)]) (by first | exact .inr rfl | exact .inl rfl) (wf_set hwf hb (LRd.below _ _ _ _)) (by simp) rfl ⟨by first | omega | (simp; done) | (simp; omega), fun j hj => by (simp only [next_setBox] at hj; have e1 : ¬ j = H.next := (by omega); have e2 : ¬ j = H.next + 1 := (by omega); by_cases e3 : j = id <;> simp [e3, box_setBox, e1, e2, show ¬ id = H.next by omega, show ¬ id = H.next + 1 by omega, LRd.row_mk, LTok.row, hb]), fun j hj => by simp, by simp⟩ ?_ <;> (try simp (maxDischargeDepth := 20) [resP, packed, plain1_agg, plain1_sl, aload, partOf, LRd.row_mk, LTok.row, *])); done)
theorem rName (H : AS) (id c : Nat) (en : Int) (r : LRd) (hb : H.box id = some [r.row c en]) : ACalls Tryz.prog 75 [.ptr id 1 0 0] H fun q H' => ∃ (r' : LRd) (t : ByteArray), q = ps t ∧ r.to r' ∧ (r.good → t.size ≤ 131072) ∧ (r'.mu < r.mu ∨ r'.mu = 0) ∧ H' = H.setBox id [r'.row c en] := by
  skip
  all_goals (refine ACalls_intro Tryz.func75 rfl (by kernel_rfl) (by simp) fun hwf hbel => ?_)
  all_goals have hid := (hwf.box _ _ hb).1
  all_goals have hid1 : ¬ id = H.next := by omega
  all_goals have hid2 : ¬ id = H.next + 1 := by omega
  all_goals have hid3 : ¬ H.next = id := by omega
  all_goals have hid4 : ¬ H.next + 1 = id := by omega
  all_goals (
    repeat' first
      | refine T_seq ?_
      | refine T_rgn ?_
      | refine T_cd ?_
      | refine T_sk ?_
      | refine T_rt ?_
      | refine T_block ?_
      | refine T_ex ?_
      | refine Kt_then ?_
      | refine Kt_block ?_
      | refine Kr_then ?_
      | refine Kr_block ?_
      | refine Ke_here ?_
      | refine Ke_then ?_
      | refine Hid.mk ?_
      | (refine callR (rKind _ _ _ _ _ (by first | assumption | exact box_self _ _ _)) ?_; rintro _ Hz ⟨⟨kn, rfl, hkn⟩, hz⟩; subst Hz)
      | (refine callR (rHere _ _ _ _ _ (by first | assumption | exact box_self _ _ _)) ?_; rintro _ Hz ⟨⟨hx, rfl⟩, hz⟩; subst Hz)
      | (refine callR (rFail _ _ _ _ _ (by first | assumption | exact box_self _ _ _) _ _) ?_; rintro _ Hz ⟨rfl, hz⟩; subst Hz)
      | (refine callR (rNext _ _ _ _ _ (by first | assumption | exact box_self _ _ _) (by first | exact (hib (by assumption)).2 | exact (hkn (by omega)).2)) ?_; rintro _ Hz ⟨⟨tn, rfl, htn⟩, hz⟩; subst Hz)
      | refine Gs.mk (fun g => ?_) (fun g => ?_) <;> (try simp only [nm] at g) <;> try (exfalso; first | contradiction | omega)
      | refine Gr.mk (fun g => ?_) (fun g => ?_) <;> (try simp only [nm] at g) <;> try (exfalso; first | contradiction | omega)
      | (refine Run.of ?_; simp (maxSteps := 1000000) (disch := first | omega | assumption | (simp; done) | fail) [*, setBox_setBox', tok3]))
  all_goals first
    | ((first | refine Kx.mk ?_ | refine Kt.mk ?_); refine Owes.mono (k := fun q H' => q = ps tn.text ∧ H' = H.setBox id [LRd.row c en (r.pop)]) (fun q H' hq => ⟨r.pop, _, hq.1, LRd.to_pop (hkn (by omega)).2, htn, .inl (LRd.mu_pop (hkn (by omega)).2 (hkn (by omega)).1), hq.2⟩) ?_; (refine owes_at (l := [.tmp 2]) (H1 := H.setBox id [LRd.row c en (r.pop)]) (by first | exact .inr rfl | exact .inl rfl) (wf_set hwf hb (LRd.below _ _ _ _)) (by simp) rfl ⟨by first | omega | (simp; done) | (simp; omega), fun j hj => by (simp only [next_setBox] at hj; have e1 : ¬ j = H.next := (by omega); have e2 : ¬ j = H.next + 1 := (by omega); by_cases e3 : j = id <;> simp [e3, box_setBox, e1, e2, show ¬ id = H.next by omega, show ¬ id = H.next + 1 by omega, LRd.row_mk, LTok.row, hb]), fun j hj => by simp, by simp⟩ ?_ <;> (try simp (maxDischargeDepth := 20) [resP, packed, plain1_agg, plain1_sl, aload, partOf, LRd.row_mk, LTok.row, *])); done)
    | ((first | refine Kx.mk ?_ | refine Kt.mk ?_); refine Owes.mono (k := fun q H' => q = ps ⟨#[]⟩ ∧ H' = H.setBox id [LRd.row c en (r.fail 50 hx)]) (fun q H' hq => ⟨_, _, hq.1, LRd.to_fail _ _ (by decide) _, fun _ => by decide, .inr (LRd.mu_fail _ _ (by decide) _), hq.2⟩) ?_; (refine owes_at (l := [.tmp 2]) (H1 := H.setBox id [LRd.row c en (r.fail 50 hx)]) (by first | exact .inr rfl | exact .inl rfl) (wf_set hwf hb (LRd.below _ _ _ _)) (by simp) rfl ⟨by first | omega | (simp; done) | (simp; omega), fun j hj => by (simp only [next_setBox] at hj; have e1 : ¬ j = H.next := (by omega); have e2 : ¬ j = H.next + 1 := (by omega); by_cases e3 : j = id <;> simp [e3, box_setBox, e1, e2, show ¬ id = H.next by omega, show ¬ id = H.next + 1 by omega, LRd.row_mk, LTok.row, hb]), fun j hj => by simp, by simp⟩ ?_ <;> (try simp (maxDischargeDepth := 20) [resP, packed, plain1_agg, plain1_sl, aload, partOf, LRd.row_mk, LTok.row, *])); done)
theorem rOk (H : AS) (id c : Nat) (en : Int) (r : LRd) (hb : H.box id = some [r.row c en]) : ACalls Tryz.prog 26 [.ptr id 1 0 0] H fun q H' => (∃ b : Bool, q = pb b ∧ (b = true → r.why = 0 ∧ ¬ r.toks = [])) ∧ H' = H := by
  obtain ⟨_ | ⟨t, l⟩, tk, w, pl, d⟩ := r
  all_goals simp only [LRd.row_mk, List.map_nil, List.map_cons, LTok.row] at hb
  all_goals by_cases hw : w = 0
  all_goals (refine ACalls_intro Tryz.func26 rfl (by kernel_rfl) (by simp) fun hwf hbel => ?_)
  all_goals have hid := (hwf.box _ _ hb).1
  all_goals have hid1 : ¬ id = H.next := by omega
  all_goals have hid2 : ¬ id = H.next + 1 := by omega
  all_goals have hid3 : ¬ H.next = id := by omega
  all_goals have hid4 : ¬ H.next + 1 = id := by omega
  all_goals (
    repeat' first
      | refine T_seq ?_
      | refine T_rgn ?_
      | refine T_cd ?_
      | refine T_sk ?_
      | refine T_rt ?_
      | refine T_block ?_
      | refine T_ex ?_
      | refine Kt_then ?_
      | refine Kt_block ?_
      | refine Kr_then ?_
      | refine Kr_block ?_
      | refine Ke_here ?_
      | refine Ke_then ?_
      | refine Hid.mk ?_
      | refine Gs.mk (fun g => ?_) (fun g => ?_) <;> (try simp only [nm] at g) <;> try (exfalso; first | contradiction | omega)
      | refine Gr.mk (fun g => ?_) (fun g => ?_) <;> (try simp only [nm] at g) <;> try (exfalso; first | contradiction | omega)
      | (refine Run.of ?_; simp (maxSteps := 1000000) (disch := first | omega | assumption | (simp; done) | fail) [*, lenNilS, idx73, cut73, LTok.row]))
  all_goals (refine Kx.mk ?_; refine owes_r (l := [.tmp 2]) (.inr rfl) hwf rfl (by first | (simp (maxDischargeDepth := 20) [*]; done) | (repeat (first | exact AS.Ext.refl _ | assumption | refine AS.Ext.bump ?_ | refine AS.Ext.setBox (by first | omega | (simp; omega) | (simp; done)) ?_))) ?_ <;> (try simp (maxDischargeDepth := 20) [resP, packed, plain1_agg, plain1_sl, bemp, and_assoc, aload, partOf, *]) <;> (try ((repeat' apply And.intro) <;> first | omega | fail)))
set_option maxHeartbeats 4000000
theorem wRun (H : AS) (s : ByteArray) (a : Int) (b : Bool) (hs : s.size ≤ 65536) (h0 : 0 ≤ a) (ha : a ≤ s.size) : ACalls Tryz.prog 123 [ps s, pi a, pb b] H fun q H' => (∃ e : Int, q = pi e ∧ a ≤ e ∧ e ≤ s.size) ∧ H' = H := by
  refine ACalls_intro Tryz.func123 rfl (by kernel_rfl) (by simp) fun hwf hbel => ?_
  repeat' first
    | refine T_seq ?_
    | refine T_rgn ?_
    | refine T_cd ?_
    | refine T_sk ?_
    | refine T_rt ?_
    | refine T_block ?_
    | refine T_ex ?_
    | refine Kt_then ?_
    | refine Kt_block ?_
    | refine Kr_then ?_
    | refine Kr_block ?_
    | refine Ke_here ?_
    | refine Ke_then ?_
    | refine Hid.mk ?_
    | (refine callR (wDigit _ _) ?_; rintro _ Hz ⟨⟨_, rfl⟩, hz⟩; subst Hz)
    | (refine callR (wInner _ _) ?_; rintro _ Hz ⟨⟨_, rfl⟩, hz⟩; subst Hz)
    | refine Gs.mk (fun g => ?_) (fun g => ?_) <;> (try simp only [nm] at g) <;> try (exfalso; omega)
    | refine Gr.mk (fun g => ?_) (fun g => ?_) <;> (try simp only [nm] at g) <;> try (exfalso; omega)
    | (refine Run.of ?_; simp (maxSteps := 1000000) (disch := first | omega | assumption | (simp; done) | fail) [*, idx9, cutAB, cutA, cutB, wrap_i64, wrap_nn, ext_size, beq_bytes, app_size, catIf, bemp])
  all_goals (try (refine Kx.mk ?_; refine owes_r (l := [.tmp 6]) (.inr rfl) hwf rfl ?_ ?_ <;> (try simp (maxDischargeDepth := 20) [resP, packed, plain1_agg, plain1_sl, below_agg, aload, partOf, *]) <;> (try omega)))
  refine T_lp (fun k F H' => ∃ e : Int, k = ((s.size : Int) - e).toNat ∧ a ≤ e ∧ e ≤ s.size ∧ F 0 = ps s ∧ F 1 = pi e ∧ F 2 = pb b ∧ H' = H) (((s.size : Int) - a).toNat) ?_ ?_
  · refine ⟨a, ?_⟩; simp [*]; try omega
  rintro k F H1 ⟨e, rfl, he1, he2, g0, ge, g2, rfl⟩
  repeat' first
    | refine T_seq ?_
    | refine T_rgn ?_
    | refine T_cd ?_
    | refine T_sk ?_
    | refine T_rt ?_
    | refine T_block ?_
    | refine T_ex ?_
    | refine Kt_then ?_
    | refine Kt_block ?_
    | refine Kr_then ?_
    | refine Kr_block ?_
    | refine Kr_loop ?_
    | refine Ke_here ?_
    | refine Ke_then ?_
    | refine Ke_loop ?_
    | refine Ke_block ?_
    | refine Hid.mk ?_
    | (refine callR (wDigit _ _) ?_; rintro _ Hz ⟨⟨_, rfl⟩, hz⟩; subst Hz)
    | (refine callR (wInner _ _) ?_; rintro _ Hz ⟨⟨_, rfl⟩, hz⟩; subst Hz)
    | refine Gs.mk (fun g => ?_) (fun g => ?_) <;> (try simp only [nm] at g) <;> try (exfalso; omega)
    | refine Gr.mk (fun g => ?_) (fun g => ?_) <;> (try simp only [nm] at g) <;> try (exfalso; omega)
    | (refine Run.of ?_; simp (maxSteps := 1000000) (disch := first | omega | assumption | (simp; done) | fail) [*, idx9, cutAB, cutA, cutB, wrap_i64, wrap_nn, ext_size, beq_bytes, app_size, catIf, bemp])
  all_goals (try (refine Kx.mk ?_; refine owes_r (l := [.tmp 6]) (.inr rfl) hwf rfl ?_ ?_ <;> (try simp (maxDischargeDepth := 20) [resP, packed, plain1_agg, plain1_sl, below_agg, aload, partOf, *]) <;> (try omega)))
  all_goals first | (refine Kt_loop ⟨_, ?_, e + 1, rfl, by omega, by omega, by simp [*], by simp [*], by simp [*], rfl⟩ <;> omega) | skip
theorem wStretch (H : AS) (s : ByteArray) (a : Int) (hs : s.size ≤ 65536) (h0 : 1 ≤ a) (ha : a ≤ s.size) : ACalls Tryz.prog 141 [ps s, pi a] H fun q H' => (∃ e : Int, q = pi e ∧ a ≤ e ∧ e ≤ s.size) ∧ H' = H := by
  refine ACalls_intro Tryz.func141 rfl (by kernel_rfl) (by simp) fun hwf hbel => ?_
  repeat' first
    | refine T_seq ?_
    | refine T_rgn ?_
    | refine T_cd ?_
    | refine T_sk ?_
    | refine T_rt ?_
    | refine T_block ?_
    | refine T_ex ?_
    | refine Kt_then ?_
    | refine Kt_block ?_
    | refine Kr_then ?_
    | refine Kr_block ?_
    | refine Ke_here ?_
    | refine Ke_then ?_
    | refine Hid.mk ?_
    | (refine callR (wDigit _ _) ?_; rintro _ Hz ⟨⟨_, rfl⟩, hz⟩; subst Hz)
    | refine Gs.mk (fun g => ?_) (fun g => ?_) <;> (try simp only [nm] at g) <;> try (exfalso; omega)
    | refine Gr.mk (fun g => ?_) (fun g => ?_) <;> (try simp only [nm] at g) <;> try (exfalso; omega)
    | (refine Run.of ?_; simp (maxSteps := 1000000) (disch := first | omega | assumption | (simp; done) | fail) [*, idx9, cutAB, cutA, cutB, wrap_i64, wrap_nn, ext_size, beq_bytes, app_size, catIf, bemp])
  all_goals (try (refine Kx.mk ?_; refine owes_r (l := [.tmp 4]) (.inr rfl) hwf rfl ?_ ?_ <;> (try simp (maxDischargeDepth := 20) [resP, packed, plain1_agg, plain1_sl, below_agg, aload, partOf, *]) <;> (try omega)))
  refine T_lp (fun k F H' => ∃ e : Int, k = ((s.size : Int) - e).toNat ∧ a ≤ e ∧ e ≤ s.size ∧ F 0 = ps s ∧ F 1 = pi e ∧ H' = H) (((s.size : Int) - a).toNat) ?_ ?_
  · refine ⟨a, ?_⟩; simp [*]; try omega
  rintro k F H1 ⟨e, rfl, he1, he2, g0, ge, rfl⟩
  repeat' first
    | refine T_seq ?_
    | refine T_rgn ?_
    | refine T_cd ?_
    | refine T_sk ?_
    | refine T_rt ?_
    | refine T_block ?_
    | refine T_ex ?_
    | refine Kt_then ?_
    | refine Kt_block ?_
    | refine Kr_then ?_
    | refine Kr_block ?_
    | refine Kr_loop ?_
    | refine Ke_here ?_
    | refine Ke_then ?_
    | refine Ke_loop ?_
    | refine Ke_block ?_
    | refine Hid.mk ?_
    | (refine callR (wDigit _ _) ?_; rintro _ Hz ⟨⟨_, rfl⟩, hz⟩; subst Hz)
    | refine Gs.mk (fun g => ?_) (fun g => ?_) <;> (try simp only [nm] at g) <;> try (exfalso; omega)
    | refine Gr.mk (fun g => ?_) (fun g => ?_) <;> (try simp only [nm] at g) <;> try (exfalso; omega)
    | (refine Run.of ?_; simp (maxSteps := 1000000) (disch := first | omega | assumption | (simp; done) | fail) [*, idx9, cutAB, cutA, cutB, wrap_i64, wrap_nn, ext_size, beq_bytes, app_size, catIf, bemp])
  all_goals (try (refine Kx.mk ?_; refine owes_r (l := [.tmp 4]) (.inr rfl) hwf rfl ?_ ?_ <;> (try simp (maxDischargeDepth := 20) [resP, packed, plain1_agg, plain1_sl, below_agg, aload, partOf, *]) <;> (try omega)))
  all_goals first | (refine Kt_loop ⟨_, ?_, e + 1, rfl, by omega, by omega, by simp [*], by simp [*], rfl⟩ <;> omega) | skip
theorem wPlain (H : AS) (s : ByteArray) (hs : s.size ≤ 65536) : ACalls Tryz.prog 142 [ps s] H fun q H' => (∃ w : ByteArray, q = ps w ∧ w.size ≤ s.size) ∧ H' = H := by
  refine ACalls_intro Tryz.func142 rfl (by kernel_rfl) (by simp) fun hwf hbel => ?_
  repeat' first
    | refine T_seq ?_
    | refine T_rgn ?_
    | refine T_cd ?_
    | refine T_sk ?_
    | refine T_rt ?_
    | refine T_block ?_
    | refine T_ex ?_
    | refine Kt_then ?_
    | refine Kt_block ?_
    | refine Kr_then ?_
    | refine Kr_block ?_
    | refine Ke_here ?_
    | refine Ke_then ?_
    | refine Hid.mk ?_
    | (refine callR (wDigit _ _) ?_; rintro _ Hz ⟨⟨_, rfl⟩, hz⟩; subst Hz)
    | refine Gs.mk (fun g => ?_) (fun g => ?_) <;> (try simp only [nm] at g) <;> try (exfalso; omega)
    | refine Gr.mk (fun g => ?_) (fun g => ?_) <;> (try simp only [nm] at g) <;> try (exfalso; omega)
    | (refine Run.of ?_; simp (maxSteps := 1000000) (disch := first | omega | assumption | (simp; done) | fail) [*, idx9, cutAB, cutA, cutB, wrap_i64, wrap_nn, ext_size, beq_bytes, app_size, catIf, bemp])
  all_goals (try (refine Kx.mk ?_; refine owes_r (l := [.tmp 2]) (.inr rfl) hwf rfl ?_ ?_ <;> (try simp (maxDischargeDepth := 20) [resP, packed, plain1_agg, plain1_sl, below_agg, aload, partOf, *]) <;> (try omega)))
  refine T_lp (fun k F H' => ∃ (e : Int) (w : ByteArray), k = ((s.size : Int) - e).toNat ∧ 0 ≤ e ∧ e ≤ s.size ∧ F 0 = ps s ∧ F 4 = pi e ∧ F 3 = ps w ∧ w.size ≤ e ∧ H' = H) (((s.size : Int) - 0).toNat) ?_ ?_
  · refine ⟨0, ⟨#[]⟩, ?_⟩ <;> (repeat' apply And.intro) <;> first | omega | rfl | assumption | (simp (disch := first | omega | assumption | (simp; done) | fail) [*, idx9, cutAB, cutA, cutB, wrap_i64, wrap_nn, ext_size, beq_bytes, app_size, catIf, bemp]; done)
  rintro k F H1 ⟨e, w, rfl, he1, he2, g0, ge, g3, hw, rfl⟩
  repeat' first
    | refine T_seq ?_
    | refine T_rgn ?_
    | refine T_cd ?_
    | refine T_sk ?_
    | refine T_rt ?_
    | refine T_block ?_
    | refine T_ex ?_
    | refine Kt_then ?_
    | refine Kt_block ?_
    | refine Kr_then ?_
    | refine Kr_block ?_
    | refine Kr_loop ?_
    | refine Ke_here ?_
    | refine Ke_then ?_
    | refine Ke_loop ?_
    | refine Ke_block ?_
    | refine Hid.mk ?_
    | (refine callR (wDigit _ _) ?_; rintro _ Hz ⟨⟨_, rfl⟩, hz⟩; subst Hz)
    | refine Gs.mk (fun g => ?_) (fun g => ?_) <;> (try simp only [nm] at g) <;> try (exfalso; omega)
    | refine Gr.mk (fun g => ?_) (fun g => ?_) <;> (try simp only [nm] at g) <;> try (exfalso; omega)
    | (refine Run.of ?_; simp (maxSteps := 1000000) (disch := first | omega | assumption | (simp; done) | fail) [*, idx9, cutAB, cutA, cutB, wrap_i64, wrap_nn, ext_size, beq_bytes, app_size, catIf, bemp])
  all_goals (try (refine Kx.mk ?_; refine owes_r (l := [.tmp 2]) (.inr rfl) hwf rfl ?_ ?_ <;> (try simp (maxDischargeDepth := 20) [resP, packed, plain1_agg, plain1_sl, below_agg, aload, partOf, *]) <;> (try omega)))
  all_goals first | (refine Kt_loop ⟨_, ?_, e + 1, w ++ s.extract e.toNat (e + 1).toNat, rfl, ?_⟩ <;> (repeat' apply And.intro) <;> first | omega | rfl | assumption | (simp (disch := first | omega | assumption | (simp; done) | fail) [*, idx9, cutAB, cutA, cutB, wrap_i64, wrap_nn, ext_size, beq_bytes, app_size, catIf, bemp]; done) | (rw [app_size, ext_size _ _ _ (by omega) (by omega)]; omega)) | (refine Kt_loop ⟨_, ?_, e + 1, w, rfl, ?_⟩ <;> (repeat' apply And.intro) <;> first | omega | rfl | assumption | (simp (disch := first | omega | assumption | (simp; done) | fail) [*, idx9, cutAB, cutA, cutB, wrap_i64, wrap_nn, ext_size, beq_bytes, app_size, catIf, bemp]; done)) | skip
theorem wTens (H : AS) (n : Int) (hn : n ≤ 65536) : ACalls Tryz.prog 143 [pi n] H fun q H' => (∃ x, q = .val (.float .f64 x)) ∧ H' = H := by
  refine ACalls_intro Tryz.func143 rfl (by kernel_rfl) (by simp) fun hwf hbel => ?_
  repeat' first
    | refine T_seq ?_
    | refine T_rgn ?_
    | refine T_cd ?_
    | refine T_sk ?_
    | refine T_rt ?_
    | refine T_block ?_
    | refine T_ex ?_
    | refine Kt_then ?_
    | refine Kt_block ?_
    | refine Kr_then ?_
    | refine Kr_block ?_
    | refine Ke_here ?_
    | refine Ke_then ?_
    | refine Hid.mk ?_
    | refine Gs.mk (fun g => ?_) (fun g => ?_) <;> (try simp only [nm] at g) <;> try (exfalso; omega)
    | refine Gr.mk (fun g => ?_) (fun g => ?_) <;> (try simp only [nm] at g) <;> try (exfalso; omega)
    | (refine Run.of ?_; simp (maxSteps := 1000000) (disch := first | omega | assumption | (simp; done) | fail) [*, idx9, cutAB, cutA, cutB, wrap_i64, wrap_nn, ext_size, beq_bytes, app_size, catIf, bemp])
  all_goals (try (refine Kx.mk ?_; refine owes_r (l := [.tmp 2]) (.inr rfl) hwf rfl ?_ ?_ <;> (try simp (maxDischargeDepth := 20) [resP, packed, plain1_agg, plain1_sl, below_agg, aload, partOf, *]) <;> (try omega)))
  refine T_lp (fun k F H' => ∃ (e : Int) (x : Nat), k = (n - e).toNat ∧ 0 ≤ e ∧ F 4 = pi n ∧ F 5 = pi e ∧ F 3 = .val (.float .f64 x) ∧ H' = H) ((n - 0).toNat) ?_ ?_
  · refine ⟨0, 4607182418800017408, ?_⟩; simp [*]
  rintro k F H1 ⟨e, x, rfl, he1, g4, g5, g3, rfl⟩
  repeat' first
    | refine T_seq ?_
    | refine T_rgn ?_
    | refine T_cd ?_
    | refine T_sk ?_
    | refine T_rt ?_
    | refine T_block ?_
    | refine T_ex ?_
    | refine Kt_then ?_
    | refine Kt_block ?_
    | refine Kr_then ?_
    | refine Kr_block ?_
    | refine Kr_loop ?_
    | refine Ke_here ?_
    | refine Ke_then ?_
    | refine Ke_loop ?_
    | refine Ke_block ?_
    | refine Hid.mk ?_
    | intro r
    | refine Gs.mk (fun g => ?_) (fun g => ?_) <;> (try simp only [nm] at g) <;> try (exfalso; omega)
    | refine Gr.mk (fun g => ?_) (fun g => ?_) <;> (try simp only [nm] at g) <;> try (exfalso; omega)
    | (refine Run.of ?_; simp (maxSteps := 1000000) (disch := first | omega | assumption | (simp; done) | fail) [*, idx9, cutAB, cutA, cutB, wrap_i64, wrap_nn, ext_size, beq_bytes, app_size, catIf, bemp])
  all_goals (try (refine Kx.mk ?_; refine owes_r (l := [.tmp 2]) (.inr rfl) hwf rfl ?_ ?_ <;> (try simp (maxDischargeDepth := 20) [resP, packed, plain1_agg, plain1_sl, below_agg, aload, partOf, *]) <;> (try omega)))
  all_goals first | (refine Kt_loop ⟨_, ?_, e + 1, _, rfl, by omega, by simp [*], by simp [*], by simp [*]; rfl, rfl⟩ <;> omega) | skip
set_option maxHeartbeats 4000000
theorem f64bits (H : AS) (n : Nat) : ACalls Tryz.prog 160 [.val (.float .f64 n)] H fun q H' => (∃ b : Int, q = k64 b) ∧ H' = H := by
  have h : XCalls Tryz.prog 160 [.val (.float .f64 n)] H fun q H' => (∃ b : Int, q = k64 b) ∧ H' = H := by
    refine ⟨_, Extern.MathFloatBits.float64bits, Tryz.func160, by kernel_rfl, by kernel_rfl, by kernel_rfl, by kernel_rfl, fun G w vs hr hall => ?_⟩
    match vs, hall with
    | [v], h =>
      cases rep_val h.1
      exact ⟨_, w, G, _, H, rfl, .refl G, hr, .val _, ⟨_, rfl⟩, rfl⟩
  exact Or.inr h
theorem wTime (H : AS) (k : Int) : ACalls Tryz.prog 138 [.val (.int .u8 k)] H fun q H' => (∃ b : Bool, q = pb b) ∧ H' = H := by
  refine ACalls_intro Tryz.func138 rfl (by kernel_rfl) (by simp) fun hwf hbel => ?_
  repeat' first
    | refine T_seq ?_
    | refine T_rgn ?_
    | refine T_cd ?_
    | refine T_sk ?_
    | refine T_rt ?_
    | refine T_block ?_
    | refine T_ex ?_
    | refine Kt_then ?_
    | refine Kt_block ?_
    | refine Kr_then ?_
    | refine Kr_block ?_
    | refine Ke_here ?_
    | refine Ke_then ?_
    | refine Hid.mk ?_
    | refine Gs.mk (fun g => ?_) (fun g => ?_) <;> (try simp only [nm] at g) <;> try (exfalso; omega)
    | refine Gr.mk (fun g => ?_) (fun g => ?_) <;> (try simp only [nm] at g) <;> try (exfalso; omega)
    | (refine Run.of ?_; simp (maxSteps := 1000000) (disch := first | omega | assumption | (simp; done) | fail) [*])
  all_goals (refine Kx.mk ?_; refine owes_r (l := [.tmp 2]) (.inr rfl) hwf rfl ?_ ?_ <;> (try simp (maxDischargeDepth := 20) [resP, packed, plain1_agg, plain1_sl, bemp, aload, partOf, *]) <;> (try omega))
theorem wSigned (H : AS) (k : Int) : ACalls Tryz.prog 158 [.val (.int .u8 k)] H fun q H' => q = pb (decide (2 ≤ k ∧ k ≤ 5)) ∧ H' = H := by
  refine ACalls_intro Tryz.func158 rfl (by kernel_rfl) (by simp) fun hwf hbel => ?_
  repeat' first
    | refine T_seq ?_
    | refine T_rgn ?_
    | refine T_cd ?_
    | refine T_sk ?_
    | refine T_rt ?_
    | refine T_block ?_
    | refine T_ex ?_
    | refine Kt_then ?_
    | refine Kt_block ?_
    | refine Kr_then ?_
    | refine Kr_block ?_
    | refine Ke_here ?_
    | refine Ke_then ?_
    | refine Hid.mk ?_
    | refine Gs.mk (fun g => ?_) (fun g => ?_) <;> (try simp only [nm] at g) <;> try (exfalso; omega)
    | refine Gr.mk (fun g => ?_) (fun g => ?_) <;> (try simp only [nm] at g) <;> try (exfalso; omega)
    | (refine Run.of ?_; simp (maxSteps := 1000000) (disch := first | omega | assumption | (simp; done) | fail) [*])
  all_goals (refine Kx.mk ?_; refine owes_one (.inr rfl) hwf rfl ?_ ?_ ?_ ?_ <;> (try simp (maxDischargeDepth := 20) [*]))
theorem wElem (H : AS) (k : Int) : ACalls Tryz.prog 145 [.val (.int .u8 k)] H fun q H' => (∃ b : Bool, q = pb b ∧ (b = true → 1 ≤ k ∧ k ≤ 19)) ∧ H' = H := by
  refine ACalls_intro Tryz.func145 rfl (by kernel_rfl) (by simp) fun hwf hbel => ?_
  repeat' first
    | refine T_seq ?_
    | refine T_rgn ?_
    | refine T_cd ?_
    | refine T_sk ?_
    | refine T_rt ?_
    | refine T_block ?_
    | refine T_ex ?_
    | refine Kt_then ?_
    | refine Kt_block ?_
    | refine Kr_then ?_
    | refine Kr_block ?_
    | refine Ke_here ?_
    | refine Ke_then ?_
    | refine Hid.mk ?_
    | refine Gs.mk (fun g => ?_) (fun g => ?_) <;> (try simp only [nm] at g) <;> try (exfalso; omega)
    | refine Gr.mk (fun g => ?_) (fun g => ?_) <;> (try simp only [nm] at g) <;> try (exfalso; omega)
    | (refine Run.of ?_; simp (maxSteps := 1000000) (disch := first | omega | assumption | (simp; done) | fail) [*])
  all_goals (refine Kx.mk ?_; refine owes_r (l := [.tmp 2]) (.inr rfl) hwf rfl ?_ ?_ <;> (try simp (maxDischargeDepth := 20) [resP, packed, plain1_agg, plain1_sl, bemp, aload, partOf, *]) <;> (try omega))
theorem wWidth (H : AS) (k : Int) : ACalls Tryz.prog 180 [.val (.int .u8 k)] H fun q H' => (∃ w : Int, q = pi w ∧ 0 ≤ w ∧ w ≤ 64 ∧ (2 ≤ k ∧ k ≤ 5 → 0 < w)) ∧ H' = H := by
  refine ACalls_intro Tryz.func180 rfl (by kernel_rfl) (by simp) fun hwf hbel => ?_
  repeat' first
    | refine T_seq ?_
    | refine T_rgn ?_
    | refine T_cd ?_
    | refine T_sk ?_
    | refine T_rt ?_
    | refine T_block ?_
    | refine T_ex ?_
    | refine Kt_then ?_
    | refine Kt_block ?_
    | refine Kr_then ?_
    | refine Kr_block ?_
    | refine Ke_here ?_
    | refine Ke_then ?_
    | refine Hid.mk ?_
    | refine Gs.mk (fun g => ?_) (fun g => ?_) <;> (try simp only [nm] at g) <;> try (exfalso; omega)
    | refine Gr.mk (fun g => ?_) (fun g => ?_) <;> (try simp only [nm] at g) <;> try (exfalso; omega)
    | (refine Run.of ?_; simp (maxSteps := 1000000) (disch := first | omega | assumption | (simp; done) | fail) [*])
  all_goals (refine Kx.mk ?_; refine owes_r (l := [.tmp 2]) (.inr rfl) hwf rfl ?_ ?_ <;> (try simp (maxDischargeDepth := 20) [resP, packed, plain1_agg, plain1_sl, bemp, aload, partOf, *]) <;> (try omega))
theorem wIsNan (H : AS) (b : Int) : ACalls Tryz.prog 181 [.val (.int .u64 b)] H fun q H' => (∃ b : Bool, q = pb b) ∧ H' = H := by
  refine ACalls_intro Tryz.func181 rfl (by kernel_rfl) (by simp) fun hwf hbel => ?_
  repeat' first
    | refine T_seq ?_
    | refine T_rgn ?_
    | refine T_cd ?_
    | refine T_sk ?_
    | refine T_rt ?_
    | refine T_block ?_
    | refine T_ex ?_
    | refine Kt_then ?_
    | refine Kt_block ?_
    | refine Kr_then ?_
    | refine Kr_block ?_
    | refine Ke_here ?_
    | refine Ke_then ?_
    | refine Hid.mk ?_
    | refine Gs.mk (fun g => ?_) (fun g => ?_) <;> (try simp only [nm] at g) <;> try (exfalso; omega)
    | refine Gr.mk (fun g => ?_) (fun g => ?_) <;> (try simp only [nm] at g) <;> try (exfalso; omega)
    | (refine Run.of ?_; simp (maxSteps := 1000000) (disch := first | omega | assumption | (simp; done) | fail) [*])
  all_goals (refine Kx.mk ?_; refine owes_r (l := [.tmp 2]) (.inr rfl) hwf rfl ?_ ?_ <;> (try simp (maxDischargeDepth := 20) [resP, packed, plain1_agg, plain1_sl, bemp, aload, partOf, *]) <;> (try omega))
theorem wN31 (H : AS) (b : Bool) : ACalls Tryz.prog 102 [pb b] H fun q H' => (∃ n : Int, q = pi n) ∧ H' = H := by
  refine ACalls_intro Tryz.func102 rfl (by kernel_rfl) (by simp) fun hwf hbel => ?_
  repeat' first
    | refine T_seq ?_
    | refine T_rgn ?_
    | refine T_cd ?_
    | refine T_sk ?_
    | refine T_rt ?_
    | refine T_block ?_
    | refine T_ex ?_
    | refine Kt_then ?_
    | refine Kt_block ?_
    | refine Kr_then ?_
    | refine Kr_block ?_
    | refine Ke_here ?_
    | refine Ke_then ?_
    | refine Hid.mk ?_
    | refine Gs.mk (fun g => ?_) (fun g => ?_) <;> (try simp only [nm] at g) <;> try (exfalso; omega)
    | refine Gr.mk (fun g => ?_) (fun g => ?_) <;> (try simp only [nm] at g) <;> try (exfalso; omega)
    | (refine Run.of ?_; simp (maxSteps := 1000000) (disch := first | omega | assumption | (simp; done) | fail) [*])
  all_goals (refine Kx.mk ?_; refine owes_r (l := [.tmp 2]) (.inr rfl) hwf rfl ?_ ?_ <;> (try simp (maxDischargeDepth := 20) [resP, packed, plain1_agg, plain1_sl, bemp, aload, partOf, *]) <;> (try omega))
theorem wTimed (H : AS) (w : ByteArray) : ACalls Tryz.prog 124 [ps w] H fun q H' => (∃ n : Int, q = k8 n) ∧ H' = H := by
  refine ACalls_intro Tryz.func124 rfl (by kernel_rfl) (by simp) fun hwf hbel => ?_
  repeat' first
    | refine T_seq ?_
    | refine T_rgn ?_
    | refine T_cd ?_
    | refine T_sk ?_
    | refine T_rt ?_
    | refine T_block ?_
    | refine T_ex ?_
    | refine Kt_then ?_
    | refine Kt_block ?_
    | refine Kr_then ?_
    | refine Kr_block ?_
    | refine Ke_here ?_
    | refine Ke_then ?_
    | refine Hid.mk ?_
    | refine Gs.mk (fun g => ?_) (fun g => ?_) <;> (try simp only [nm] at g) <;> try (exfalso; omega)
    | refine Gr.mk (fun g => ?_) (fun g => ?_) <;> (try simp only [nm] at g) <;> try (exfalso; omega)
    | (refine Run.of ?_; simp (maxSteps := 1000000) (disch := first | omega | assumption | (simp; done) | fail) [*, idx9, cutAB, cutA, cutB, wrap_i64, wrap_nn, ext_size, beq_bytes, app_size, catIf, bemp])
  all_goals (refine Kx.mk ?_; refine owes_r (l := [.tmp 2]) (.inr rfl) hwf rfl ?_ ?_ <;> (try simp (maxDischargeDepth := 20) [resP, packed, plain1_agg, plain1_sl, bemp, aload, partOf, *]) <;> (try omega))
theorem wBool (H : AS) (b : Bool) : ACalls Tryz.prog 121 [pb b] H fun q H' => (∃ n : Int, q = .agg [k8 1, k64 n, ps ⟨#[]⟩]) ∧ H' = H := by
  refine ACalls_intro Tryz.func121 rfl (by kernel_rfl) (by simp) fun hwf hbel => ?_
  repeat' first
    | refine T_seq ?_
    | refine T_rgn ?_
    | refine T_cd ?_
    | refine T_sk ?_
    | refine T_rt ?_
    | refine T_block ?_
    | refine T_ex ?_
    | refine Kt_then ?_
    | refine Kt_block ?_
    | refine Kr_then ?_
    | refine Kr_block ?_
    | refine Ke_here ?_
    | refine Ke_then ?_
    | refine Hid.mk ?_
    | refine Gs.mk (fun g => ?_) (fun g => ?_) <;> (try simp only [nm] at g) <;> try (exfalso; omega)
    | refine Gr.mk (fun g => ?_) (fun g => ?_) <;> (try simp only [nm] at g) <;> try (exfalso; omega)
    | (refine Run.of ?_; simp (maxSteps := 1000000) (disch := first | omega | assumption | (simp; done) | fail) [*, idx9, cutAB, cutA, cutB, wrap_i64, wrap_nn, ext_size, beq_bytes, app_size, catIf, bemp])
  all_goals (refine Kx.mk ?_; refine owes_r (l := [.cell 2 119]) (.inr rfl) hwf rfl ?_ ?_ <;> (try simp (maxDischargeDepth := 20) [resP, packed, plain1_agg, plain1_sl, bemp, aload, partOf, *]) <;> (try omega))
theorem wLreal (H : AS) (n : Nat) : ACalls Tryz.prog 144 [.val (.float .f64 n)] H fun q H' => (∃ n : Int, q = .agg [k8 18, k64 n, ps ⟨#[]⟩]) ∧ H' = H := by
  refine ACalls_intro Tryz.func144 rfl (by kernel_rfl) (by simp) fun hwf hbel => ?_
  repeat' first
    | refine T_seq ?_
    | refine T_rgn ?_
    | refine T_cd ?_
    | refine T_sk ?_
    | refine T_rt ?_
    | refine T_block ?_
    | refine T_ex ?_
    | refine Kt_then ?_
    | refine Kt_block ?_
    | refine Kr_then ?_
    | refine Kr_block ?_
    | refine Ke_here ?_
    | refine Ke_then ?_
    | refine Hid.mk ?_
    | (refine callR (f64bits _ _) ?_; rintro _ Hz ⟨⟨_, rfl⟩, hz⟩; subst Hz)
    | refine Gs.mk (fun g => ?_) (fun g => ?_) <;> (try simp only [nm] at g) <;> try (exfalso; omega)
    | refine Gr.mk (fun g => ?_) (fun g => ?_) <;> (try simp only [nm] at g) <;> try (exfalso; omega)
    | (refine Run.of ?_; simp (maxSteps := 1000000) (disch := first | omega | assumption | (simp; done) | fail) [*, idx9, cutAB, cutA, cutB, wrap_i64, wrap_nn, ext_size, beq_bytes, app_size, catIf, bemp])
  all_goals (refine Kx.mk ?_; refine owes_r (l := [.cell 2 119]) (.inr rfl) hwf rfl ?_ ?_ <;> (try simp (maxDischargeDepth := 20) [resP, packed, plain1_agg, plain1_sl, bemp, aload, partOf, *]) <;> (try omega))
set_option maxHeartbeats 4000000
theorem wDigX (H : AS) (c : Int) : ACalls Tryz.prog 105 [.val (.int .u8 c)] H fun q H' => q = pb (decide (48 ≤ c ∧ c ≤ 57)) ∧ H' = H := by
  refine ACalls_intro Tryz.func105 rfl (by kernel_rfl) (by simp) fun hwf hbel => ?_
  repeat' first
    | refine T_seq ?_
    | refine T_rgn ?_
    | refine T_cd ?_
    | refine T_sk ?_
    | refine T_rt ?_
    | refine T_block ?_
    | refine T_ex ?_
    | refine Kt_then ?_
    | refine Kt_block ?_
    | refine Kr_then ?_
    | refine Kr_block ?_
    | refine Ke_here ?_
    | refine Ke_then ?_
    | refine Hid.mk ?_
    | refine Gs.mk (fun g => ?_) (fun g => ?_) <;> (try simp only [nm] at g) <;> try (exfalso; omega)
    | refine Gr.mk (fun g => ?_) (fun g => ?_) <;> (try simp only [nm] at g) <;> try (exfalso; omega)
    | (refine Run.of ?_; simp (maxSteps := 1000000) (disch := first | omega | assumption | (simp; done) | fail) [*])
  all_goals (refine Kx.mk ?_; refine owes_one (.inr rfl) hwf rfl ?_ ?_ ?_ ?_ <;> (try simp (maxDischargeDepth := 20) [*]))
theorem wValue (H : AS) (c : Int) (hc : 0 ≤ c ∧ c < 256) : ACalls Tryz.prog 137 [.val (.int .u8 c)] H fun q H' => (∃ n : Int, q = k64 n ∧ 0 ≤ n ∧ n ≤ 16 ∧ (n = 0 → c = 48)) ∧ H' = H := by
  refine ACalls_intro Tryz.func137 rfl (by kernel_rfl) (by simp) fun hwf hbel => ?_
  repeat' first
    | refine T_seq ?_
    | refine T_rgn ?_
    | refine T_cd ?_
    | refine T_sk ?_
    | refine T_rt ?_
    | refine T_block ?_
    | refine T_ex ?_
    | refine Kt_then ?_
    | refine Kt_block ?_
    | refine Kr_then ?_
    | refine Kr_block ?_
    | refine Ke_here ?_
    | refine Ke_then ?_
    | refine Hid.mk ?_
    | (refine callR (wDigX _ _) ?_; rintro _ Hz ⟨rfl, hz⟩; subst Hz)
    | refine Gs.mk (fun g => ?_) (fun g => ?_) <;> (try simp only [nm] at g) <;> try (exfalso; omega)
    | refine Gr.mk (fun g => ?_) (fun g => ?_) <;> (try simp only [nm] at g) <;> try (exfalso; omega)
    | (refine Run.of ?_; simp (maxSteps := 1000000) (disch := first | omega | assumption | (simp; done) | fail) [*, idx9, cutAB, cutA, cutB, wrap_i64, wrap_nn, ext_size, beq_bytes, app_size, catIf, bemp, wrap_u8, wrap_u64])
  all_goals (refine Kx.mk ?_; refine owes_r (l := [.tmp 2]) (.inr rfl) hwf rfl ?_ ?_ <;> (try simp (maxDischargeDepth := 20) [resP, packed, plain1_agg, plain1_sl, bemp, and_assoc, aload, partOf, *]) <;> (try ((repeat' apply And.intro) <;> first | omega | fail)))
theorem mulOk (n b d : Int) (hb : 0 < b) (hn : 0 ≤ n) (hd : 0 ≤ d ∧ d ≤ 16) (h : ¬ IntKind.u64.wrap ((18446744073709551615 - d).tdiv b) < n) : IntKind.u64.wrap (IntKind.u64.wrap (n * b) + d) = n * b + d ∧ 0 ≤ n * b ∧ n * b + d < 2 ^ 64 ∧ (n * b = 0 → n = 0) := by
  rw [Int.tdiv_eq_ediv_of_nonneg (by omega)] at h
  have h1 : 0 ≤ (18446744073709551615 - d) / b := Int.ediv_nonneg (by omega) (by omega)
  have h2 : (18446744073709551615 - d) / b ≤ 18446744073709551615 - d := Int.ediv_le_self _ (by omega)
  rw [wrap_u64 h1 (by omega)] at h
  have h3 : n * b ≤ 18446744073709551615 - d := (Int.le_ediv_iff_mul_le hb).1 (by omega)
  have h4 : 0 ≤ n * b := Int.mul_nonneg hn (by omega)
  rw [wrap_u64 h4 (by omega), wrap_u64 (by omega) (by omega)]
  exact ⟨rfl, h4, by omega, fun e => (Int.mul_eq_zero.1 e).resolve_right (by omega)⟩
theorem wWhole (H : AS) (s : ByteArray) (a b : Int) (hs : s.size ≤ 65536) (h0 : 0 ≤ a) (ha : a ≤ s.size) (hb : 0 < b ∧ b < 2 ^ 64) : ACalls Tryz.prog 127 [ps s, pi a, k64 b] H fun q H' => (∃ (n e : Int) (k : Bool), q = .tuple [k64 n, pi e, pb k] ∧ a ≤ e ∧ e ≤ s.size ∧ 0 ≤ n ∧ n < 2 ^ 64 ∧ (k = true → n = 0 → ∀ j : Int, a ≤ j → j < e → byteAt s j = 95 ∨ byteAt s j = 48)) ∧ H' = H := by
  refine ACalls_intro Tryz.func127 rfl (by kernel_rfl) (by simp) fun hwf hbel => ?_
  have hb0 : (b = 0) = False := by simp; omega
  repeat' first
    | refine T_seq ?_
    | refine T_rgn ?_
    | refine T_cd ?_
    | refine T_sk ?_
    | refine T_rt ?_
    | refine T_block ?_
    | refine T_ex ?_
    | refine Kt_then ?_
    | refine Kt_block ?_
    | refine Kr_then ?_
    | refine Kr_block ?_
    | refine Ke_here ?_
    | refine Ke_then ?_
    | refine Hid.mk ?_
    | (refine callR (wValue _ _ (by first | exact byteAt_lt _ _ | omega)) ?_; rintro _ Hz ⟨⟨v, rfl, hv0, hv1, hv2⟩, hz⟩; subst Hz)
    | refine Gs.mk (fun g => ?_) (fun g => ?_) <;> (try simp only [nm] at g) <;> try (exfalso; omega)
    | refine Gr.mk (fun g => ?_) (fun g => ?_) <;> (try simp only [nm] at g) <;> try (exfalso; omega)
    | (refine Run.of ?_; simp (maxSteps := 1000000) (disch := first | omega | assumption | (simp; done) | fail) [*, idx9, cutAB, cutA, cutB, wrap_i64, wrap_nn, ext_size, beq_bytes, app_size, catIf, bemp, wrap_u8, wrap_u64])
  all_goals (try (refine Kx.mk ?_; refine owes_r (l := [.tmp 6, .tmp 7, .tmp 8]) (.inr rfl) hwf rfl ?_ ?_ <;> (try simp (maxDischargeDepth := 20) [resP, packed, plain1_agg, plain1_sl, bemp, and_assoc, aload, partOf, *]) <;> (try ((repeat' apply And.intro) <;> first | omega | (intro _ z j h1 h2; by_cases ej : j = e; subst ej; omega; exact hj (by assumption) z j h1 (by omega)) | (intro z j h1 h2; by_cases ej : j = e; subst ej; omega; exact hj (by assumption) z j h1 (by omega)) | fail))))
  refine T_lp (fun k F H' => ∃ (e n : Int) (o m : Bool), k = ((s.size : Int) - e).toNat ∧ a ≤ e ∧ e ≤ s.size ∧ F 0 = ps s ∧ F 1 = pi e ∧ F 2 = k64 b ∧ F 9 = k64 n ∧ F 10 = pb o ∧ F 11 = pb m ∧ 0 ≤ n ∧ n < 2 ^ 64 ∧ (o = true → n = 0 → ∀ j : Int, a ≤ j → j < e → byteAt s j = 95 ∨ byteAt s j = 48) ∧ H' = H) (((s.size : Int) - a).toNat) ?_ ?_
  · refine ⟨a, 0, true, false, ?_⟩ <;> (repeat' apply And.intro) <;> first | omega | rfl | assumption | (simp (disch := first | omega | assumption | (simp; done) | fail) [*, idx9, cutAB, cutA, cutB, wrap_i64, wrap_nn, ext_size, beq_bytes, app_size, catIf, bemp]; done) | (intro _ _ j h1 h2; omega)
  rintro k F H1 ⟨e, n, o, m, rfl, he1, he2, g0, g1, g2, g9, g10, g11, hn1, hn2, hj, rfl⟩
  repeat' first
    | refine T_seq ?_
    | refine T_rgn ?_
    | refine T_cd ?_
    | refine T_sk ?_
    | refine T_rt ?_
    | refine T_block ?_
    | refine T_ex ?_
    | refine Kt_then ?_
    | refine Kt_block ?_
    | refine Kr_then ?_
    | refine Kr_block ?_
    | refine Kr_loop ?_
    | refine Ke_here ?_
    | refine Ke_then ?_
    | refine Ke_loop ?_
    | refine Ke_block ?_
    | refine Hid.mk ?_
    | (refine callR (wValue _ _ (by first | exact byteAt_lt _ _ | omega)) ?_; rintro _ Hz ⟨⟨v, rfl, hv0, hv1, hv2⟩, hz⟩; subst Hz)
    | refine Gs.mk (fun g => ?_) (fun g => ?_) <;> (try simp only [nm] at g) <;> try (exfalso; omega)
    | refine Gr.mk (fun g => ?_) (fun g => ?_) <;> (try simp only [nm] at g) <;> try (exfalso; omega)
    | (refine Run.of ?_; simp (maxSteps := 1000000) (disch := first | omega | assumption | (simp; done) | fail) [*, idx9, cutAB, cutA, cutB, wrap_i64, wrap_nn, ext_size, beq_bytes, app_size, catIf, bemp, wrap_u8, wrap_u64])
  all_goals (try (refine Kx.mk ?_; refine owes_r (l := [.tmp 6, .tmp 7, .tmp 8]) (.inr rfl) hwf rfl ?_ ?_ <;> (try simp (maxDischargeDepth := 20) [resP, packed, plain1_agg, plain1_sl, bemp, and_assoc, aload, partOf, *]) <;> (try ((repeat' apply And.intro) <;> first | omega | (intro _ z j h1 h2; by_cases ej : j = e; subst ej; omega; exact hj (by assumption) z j h1 (by omega)) | (intro z j h1 h2; by_cases ej : j = e; subst ej; omega; exact hj (by assumption) z j h1 (by omega)) | fail))))
  all_goals first | (refine Kt_loop ⟨_, ?_, e + 1, IntKind.u64.wrap (IntKind.u64.wrap (n * b) + v), o, true, rfl, ?_⟩ <;> (repeat' apply And.intro) <;> first | omega | rfl | assumption | (simp (disch := first | omega | assumption | (simp; done) | fail) [*, idx9, cutAB, cutA, cutB, wrap_i64, wrap_nn, ext_size, beq_bytes, app_size, catIf, bemp]; done) | exact wrap_nn _ | (rw [wu64]; omega) | (intro hf; cases hf; done) | (intro ho hz2 j h1 h2; have hm := mulOk n b v hb.1 hn1 ⟨hv0, hv1⟩ (by assumption); rw [hm.1] at hz2; have hn0 := hm.2.2.2 (by omega); rcases (by omega : j < e ∨ j = e ∨ j = e + 1) with hj1 | rfl | rfl <;> first | exact hj ho hn0 j h1 hj1 | omega | (simp [*]; done))) | (refine Kt_loop ⟨_, ?_, e + 1, n, false, true, rfl, ?_⟩ <;> (repeat' apply And.intro) <;> first | omega | rfl | assumption | (simp (disch := first | omega | assumption | (simp; done) | fail) [*, idx9, cutAB, cutA, cutB, wrap_i64, wrap_nn, ext_size, beq_bytes, app_size, catIf, bemp]; done) | exact wrap_nn _ | (rw [wu64]; omega) | (intro hf; cases hf; done) | (intro ho hz2 j h1 h2; have hm := mulOk n b v hb.1 hn1 ⟨hv0, hv1⟩ (by assumption); rw [hm.1] at hz2; have hn0 := hm.2.2.2 (by omega); rcases (by omega : j < e ∨ j = e ∨ j = e + 1) with hj1 | rfl | rfl <;> first | exact hj ho hn0 j h1 hj1 | omega | (simp [*]; done))) | (refine Kt_loop ⟨_, ?_, e + 1 + 1, IntKind.u64.wrap (IntKind.u64.wrap (n * b) + v), o, true, rfl, ?_⟩ <;> (repeat' apply And.intro) <;> first | omega | rfl | assumption | (simp (disch := first | omega | assumption | (simp; done) | fail) [*, idx9, cutAB, cutA, cutB, wrap_i64, wrap_nn, ext_size, beq_bytes, app_size, catIf, bemp]; done) | exact wrap_nn _ | (rw [wu64]; omega) | (intro hf; cases hf; done) | (intro ho hz2 j h1 h2; have hm := mulOk n b v hb.1 hn1 ⟨hv0, hv1⟩ (by assumption); rw [hm.1] at hz2; have hn0 := hm.2.2.2 (by omega); rcases (by omega : j < e ∨ j = e ∨ j = e + 1) with hj1 | rfl | rfl <;> first | exact hj ho hn0 j h1 hj1 | omega | (simp [*]; done))) | (refine Kt_loop ⟨_, ?_, e + 1 + 1, n, false, true, rfl, ?_⟩ <;> (repeat' apply And.intro) <;> first | omega | rfl | assumption | (simp (disch := first | omega | assumption | (simp; done) | fail) [*, idx9, cutAB, cutA, cutB, wrap_i64, wrap_nn, ext_size, beq_bytes, app_size, catIf, bemp]; done) | exact wrap_nn _ | (rw [wu64]; omega) | (intro hf; cases hf; done) | (intro ho hz2 j h1 h2; have hm := mulOk n b v hb.1 hn1 ⟨hv0, hv1⟩ (by assumption); rw [hm.1] at hz2; have hn0 := hm.2.2.2 (by omega); rcases (by omega : j < e ∨ j = e ∨ j = e + 1) with hj1 | rfl | rfl <;> first | exact hj ho hn0 j h1 hj1 | omega | (simp [*]; done))) | skip
set_option maxHeartbeats 4000000
theorem under43 : Tryz.prog.underlying 43 = some (.slice 9) := by kernel_rfl
theorem idx43 (id n i : Nat) (h : i < n) : aIndexAddr Tryz.prog 43 (.msl id n 1) (pi i) = some (.ptr id n i 0) := by
  unfold aIndexAddr; rw [under43]; simp [amsl h]
theorem idx43k (id n : Nat) (kd : IntKind) (k : Int) (h0 : 0 ≤ k) (h : k < (n : Int)) : aIndexAddr Tryz.prog 43 (.msl id n 1) (.val (.int kd k)) = some (.ptr id n k.toNat 0) := by
  unfold aIndexAddr; rw [under43]; simp [aindex]; omega
theorem xElem (H : AS) (k : Int) : ACalls Tryz.prog 145 [.val (.int .u8 k)] H fun q H' => q = pb (decide (1 ≤ k ∧ k ≤ 19)) ∧ H' = H := by
  refine ACalls_intro Tryz.func145 rfl (by kernel_rfl) (by simp) fun hwf hbel => ?_
  repeat' first
    | refine T_seq ?_
    | refine T_rgn ?_
    | refine T_cd ?_
    | refine T_sk ?_
    | refine T_rt ?_
    | refine T_block ?_
    | refine T_ex ?_
    | refine Kt_then ?_
    | refine Kt_block ?_
    | refine Kr_then ?_
    | refine Kr_block ?_
    | refine Ke_here ?_
    | refine Ke_then ?_
    | refine Hid.mk ?_
    | refine Gs.mk (fun g => ?_) (fun g => ?_) <;> (try simp only [nm] at g) <;> try (exfalso; first | contradiction | omega)
    | refine Gr.mk (fun g => ?_) (fun g => ?_) <;> (try simp only [nm] at g) <;> try (exfalso; first | contradiction | omega)
    | (refine Run.of ?_; simp (maxSteps := 1000000) (disch := first | omega | assumption | (simp; done) | fail) [*])
  all_goals (refine Kx.mk ?_; refine owes_one (.inr rfl) hwf rfl ?_ ?_ ?_ ?_ <;> (try simp (maxDischargeDepth := 20) [*]))
theorem wWord (H : AS) (k : Int) : ACalls Tryz.prog 130 [.val (.int .u8 k)] H fun q H' => (∃ w : ByteArray, q = ps w) ∧ H' = H := by
  have hc : k < 1 ∨ 19 < k ∨ k = 1 ∨ k = 2 ∨ k = 3 ∨ k = 4 ∨ k = 5 ∨ k = 6 ∨ k = 7 ∨ k = 8 ∨ k = 9 ∨ k = 10 ∨ k = 11 ∨ k = 12 ∨ k = 13 ∨ k = 14 ∨ k = 15 ∨ k = 16 ∨ k = 17 ∨ k = 18 ∨ k = 19 := by omega
  rcases hc with hc | hc | rfl | rfl | rfl | rfl | rfl | rfl | rfl | rfl | rfl | rfl | rfl | rfl | rfl | rfl | rfl | rfl | rfl | rfl | rfl
  all_goals (refine ACalls_intro Tryz.func130 rfl (by kernel_rfl) (by simp) fun hwf hbel => ?_)
  all_goals (
    repeat' first
      | refine T_seq ?_
      | refine T_rgn ?_
      | refine T_cd ?_
      | refine T_sk ?_
      | refine T_rt ?_
      | refine T_block ?_
      | refine T_ex ?_
      | refine Kt_then ?_
      | refine Kt_block ?_
      | refine Kr_then ?_
      | refine Kr_block ?_
      | refine Ke_here ?_
      | refine Ke_then ?_
      | refine Hid.mk ?_
      | (refine eitherK.raw ?_; simp)
      | (refine callR (xElem _ _) ?_; rintro _ Hz ⟨rfl, hz⟩; subst Hz)
      | refine Gs.mk (fun g => ?_) (fun g => ?_) <;> (try simp only [nm] at g) <;> try (exfalso; first | contradiction | omega)
      | refine Gr.mk (fun g => ?_) (fun g => ?_) <;> (try simp only [nm] at g) <;> try (exfalso; first | contradiction | omega)
      | (refine Run.of ?_; simp (maxSteps := 1000000) (disch := first | omega | assumption | (simp; done) | fail) [*, idx9, cutAB, cutA, cutB, wrap_i64, wrap_nn, ext_size, beq_bytes, app_size, catIf, bemp, idx43k]))
  all_goals (refine Kx.mk ?_; refine owes_r (l := [.tmp 2]) (.inr rfl) hwf rfl (by first | (simp (maxDischargeDepth := 20) [*]; done) | (repeat (first | exact AS.Ext.refl _ | assumption | refine AS.Ext.bump ?_ | refine AS.Ext.setBox (by first | omega | (simp; omega) | (simp; done)) ?_))) ?_ <;> (try simp (maxDischargeDepth := 20) [resP, packed, plain1_agg, plain1_sl, bemp, and_assoc, aload, partOf, *]) <;> (try ((repeat' apply And.intro) <;> first | omega | fail)))
set_option maxHeartbeats 4000000
theorem wKind (H : AS) (s : ByteArray) : ACalls Tryz.prog 110 [ps s] H fun q H' => (∃ (k : Int) (b : Bool), q = .tuple [k8 k, pb b]) ∧ H' = H := by
  refine ACalls_intro Tryz.func110 rfl (by kernel_rfl) (by simp) fun hwf hbel => ?_
  repeat' first
    | refine T_seq ?_
    | refine T_rgn ?_
    | refine T_cd ?_
    | refine T_sk ?_
    | refine T_rt ?_
    | refine T_block ?_
    | refine T_ex ?_
    | refine Kt_then ?_
    | refine Kt_block ?_
    | refine Kr_then ?_
    | refine Kr_block ?_
    | refine Ke_here ?_
    | refine Ke_then ?_
    | refine Hid.mk ?_
    | (refine callR (wWord _ _) ?_; rintro _ Hz ⟨⟨w, rfl⟩, hz⟩; subst Hz)
    | refine Gs.mk (fun g => ?_) (fun g => ?_) <;> (try simp only [nm] at g) <;> try (exfalso; first | contradiction | omega)
    | refine Gr.mk (fun g => ?_) (fun g => ?_) <;> (try simp only [nm] at g) <;> try (exfalso; first | contradiction | omega)
    | (refine Run.of ?_; simp (maxSteps := 1000000) (disch := first | omega | assumption | (simp; done) | fail) [*, idx9, cutAB, cutA, cutB, wrap_i64, wrap_nn, ext_size, beq_bytes, app_size, catIf, bemp, wrap_u8])
  all_goals (try (refine Kx.mk ?_; refine owes_r (l := [.tmp 2, .tmp 3]) (.inr rfl) hwf rfl (by first | (simp (maxDischargeDepth := 20) [*]; done) | (repeat (first | exact AS.Ext.refl _ | assumption | refine AS.Ext.bump ?_ | refine AS.Ext.setBox (by first | omega | (simp; omega) | (simp; done)) ?_))) ?_ <;> (try simp (maxDischargeDepth := 20) [resP, packed, plain1_agg, plain1_sl, bemp, and_assoc, aload, partOf, *]) <;> (try ((repeat' apply And.intro) <;> first | omega | fail))))
  refine T_lp (fun k F H' => ∃ e : Int, k = (20 - e).toNat ∧ F 0 = ps s ∧ F 4 = k8 e ∧ 1 ≤ e ∧ e ≤ 20 ∧ H' = H) ((20 - 1 : Int).toNat) ?_ ?_
  · refine ⟨1, ?_⟩ <;> (repeat' apply And.intro) <;> first | omega | rfl | assumption | (exact ⟨_, rfl⟩) | (simp (disch := first | omega | assumption | (simp; done) | fail) [*, idx9, cutAB, cutA, cutB, wrap_i64, wrap_nn, ext_size, beq_bytes, app_size, catIf, bemp]; done) | (simp [*]; omega) | fail
  rintro k F H1 ⟨e, rfl, g0, g4, he1, he2, rfl⟩
  repeat' first
    | refine T_seq ?_
    | refine T_rgn ?_
    | refine T_cd ?_
    | refine T_sk ?_
    | refine T_rt ?_
    | refine T_block ?_
    | refine T_ex ?_
    | refine Kt_then ?_
    | refine Kt_block ?_
    | refine Kr_then ?_
    | refine Kr_block ?_
    | refine Kr_loop ?_
    | refine Ke_here ?_
    | refine Ke_then ?_
    | refine Ke_loop ?_
    | refine Ke_block ?_
    | refine Hid.mk ?_
    | (refine callR (wWord _ _) ?_; rintro _ Hz ⟨⟨w, rfl⟩, hz⟩; subst Hz)
    | refine Gs.mk (fun g => ?_) (fun g => ?_) <;> (try simp only [nm] at g) <;> try (exfalso; first | contradiction | omega)
    | refine Gr.mk (fun g => ?_) (fun g => ?_) <;> (try simp only [nm] at g) <;> try (exfalso; first | contradiction | omega)
    | (refine Run.of ?_; simp (maxSteps := 1000000) (disch := first | omega | assumption | (simp; done) | fail) [*, idx9, cutAB, cutA, cutB, wrap_i64, wrap_nn, ext_size, beq_bytes, app_size, catIf, bemp, wrap_u8])
  all_goals (try (refine Kx.mk ?_; refine owes_r (l := [.tmp 2, .tmp 3]) (.inr rfl) hwf rfl (by first | (simp (maxDischargeDepth := 20) [*]; done) | (repeat (first | exact AS.Ext.refl _ | assumption | refine AS.Ext.bump ?_ | refine AS.Ext.setBox (by first | omega | (simp; omega) | (simp; done)) ?_))) ?_ <;> (try simp (maxDischargeDepth := 20) [resP, packed, plain1_agg, plain1_sl, bemp, and_assoc, aload, partOf, *]) <;> (try ((repeat' apply And.intro) <;> first | omega | fail))))
  all_goals first | (refine Kt_loop ⟨_, ?_, e + 1, rfl, ?_⟩ <;> (repeat' apply And.intro) <;> first | omega | rfl | assumption | (exact ⟨_, rfl⟩) | (simp (disch := first | omega | assumption | (simp; done) | fail) [*, wrap_u8]; done) | (simp [*]; omega) | fail) | skip
set_option maxHeartbeats 4000000
theorem rowsStr {rows : List (List PV)} (h : ∀ r ∈ rows, ∃ w : ByteArray, r = [ps w]) : ∃ f : Nat → ByteArray, ∀ j (hj : j < rows.length), rows[j] = [ps (f j)] := by
  induction rows with
  | nil => exact ⟨fun _ => eE, fun j hj => absurd hj (by simp)⟩
  | cons r rs ih =>
    obtain ⟨w, rfl⟩ := h r (by simp)
    obtain ⟨f, hf⟩ := ih fun r hr => h r (by simp [hr])
    refine ⟨fun j => match j with | 0 => w | j + 1 => f j, fun j hj => ?_⟩
    cases j with
    | zero => rfl
    | succ j => simp at hj ⊢; exact hf j (by omega)
theorem box_sb (H : AS) (id m : Nat) (rows : List (List PV)) : ((H.setBox id rows).bump m).box id = some rows := by simp
@[simp] theorem rng63 : List.range 63 = [0, 1, 2, 3, 4, 5, 6, 7, 8, 9, 10, 11, 12, 13, 14, 15, 16, 17, 18, 19, 20, 21, 22, 23, 24, 25, 26, 27, 28, 29, 30, 31, 32, 33, 34, 35, 36, 37, 38, 39, 40, 41, 42, 43, 44, 45, 46, 47, 48, 49, 50, 51, 52, 53, 54, 55, 56, 57, 58, 59, 60, 61, 62] := rfl
theorem wReserved (H : AS) (s : ByteArray) : ACalls Tryz.prog 126 [ps s] H fun q H' => (∃ b : Bool, q = pb b) ∧ H' = H := by
  refine ACalls_intro Tryz.func126 rfl (by kernel_rfl) (by simp) fun hwf hbel => ?_
  repeat' first
    | refine T_seq ?_
    | refine T_rgn ?_
    | refine T_cd ?_
    | refine T_sk ?_
    | refine T_rt ?_
    | refine T_block ?_
    | refine T_ex ?_
    | refine Kt_then ?_
    | refine Kt_block ?_
    | refine Kr_then ?_
    | refine Kr_block ?_
    | refine Ke_here ?_
    | refine Ke_then ?_
    | refine Hid.mk ?_
    | (refine eitherK.raw ?_; simp (maxSteps := 1000000) (disch := first | omega | assumption | (simp; done) | fail) [*, idx9, cutAB, cutA, cutB, wrap_i64, wrap_nn, ext_size, beq_bytes, app_size, catIf, bemp])
    | (refine callR (wKind _ _) ?_; rintro _ Hz ⟨⟨_, _, rfl⟩, hz⟩; subst Hz)
    | refine Gs.mk (fun g => ?_) (fun g => ?_) <;> (try simp only [nm] at g) <;> try (exfalso; first | contradiction | omega)
    | refine Gr.mk (fun g => ?_) (fun g => ?_) <;> (try simp only [nm] at g) <;> try (exfalso; first | contradiction | omega)
    | (refine Run.of ?_; simp (maxSteps := 1000000) (disch := first | omega | assumption | (simp; done) | fail) [*, idx9, cutAB, cutA, cutB, wrap_i64, wrap_nn, ext_size, beq_bytes, app_size, catIf, bemp, idx43])
  all_goals (try (refine Kx.mk ?_; refine owes_r (l := [.tmp 2]) (.inr rfl) hwf rfl (by first | (simp (maxDischargeDepth := 20) [*]; done) | (repeat (first | exact AS.Ext.refl _ | assumption | refine AS.Ext.bump ?_ | refine AS.Ext.setBox (by first | omega | (simp; omega) | (simp; done)) ?_))) ?_ <;> (try simp (maxDischargeDepth := 20) [resP, packed, plain1_agg, plain1_sl, bemp, and_assoc, aload, partOf, *]) <;> (try ((repeat' apply And.intro) <;> first | omega | fail))))
  refine T_lp (fun k F H' => ∃ i : Nat, k = 63 - i ∧ F 0 = ps s ∧ F 9 = .msl H.next 63 1 ∧ F 10 = pi 63 ∧ F 11 = pi i ∧ i ≤ 63 ∧ (∃ rows, H'.box H.next = some rows ∧ rows.length = 63 ∧ ∀ r ∈ rows, ∃ w : ByteArray, r = [ps w]) ∧ H.Ext H') (63) ?_ ?_
  · refine ⟨0, ?_⟩ <;> (repeat' apply And.intro) <;> first | omega | rfl | assumption | (exact ⟨_, rfl⟩) | (simp (disch := first | omega | assumption | (simp; done) | fail) [*, idx9, cutAB, cutA, cutB, wrap_i64, wrap_nn, ext_size, beq_bytes, app_size, catIf, bemp]; done) | exact ⟨_, box_sb _ _ _ _, rfl, by simp⟩ | ((repeat (first | exact AS.Ext.refl _ | assumption | refine AS.Ext.bump ?_ | refine AS.Ext.setBox (by first | omega | (simp; omega) | (simp; done)) ?_)); done) | (simp [*]; omega) | fail
  rintro k F H1 ⟨i, rfl, g0, g9, g10, g11, hi, ⟨rows, hb, hl, hr⟩, hx⟩
  obtain ⟨f, hf⟩ := rowsStr hr
  have hnx := hx.next
  repeat' first
    | refine T_seq ?_
    | refine T_rgn ?_
    | refine T_cd ?_
    | refine T_sk ?_
    | refine T_rt ?_
    | refine T_block ?_
    | refine T_ex ?_
    | refine Kt_then ?_
    | refine Kt_block ?_
    | refine Kr_then ?_
    | refine Kr_block ?_
    | refine Kr_loop ?_
    | refine Ke_here ?_
    | refine Ke_then ?_
    | refine Ke_loop ?_
    | refine Ke_block ?_
    | refine Hid.mk ?_
    | (refine eitherK.raw ?_; simp (maxSteps := 1000000) (disch := first | omega | assumption | (simp; done) | fail) [*, idx9, cutAB, cutA, cutB, wrap_i64, wrap_nn, ext_size, beq_bytes, app_size, catIf, bemp])
    | (refine callR (wKind _ _) ?_; rintro _ Hz ⟨⟨_, _, rfl⟩, hz⟩; subst Hz)
    | refine Gs.mk (fun g => ?_) (fun g => ?_) <;> (try simp only [nm] at g) <;> try (exfalso; first | contradiction | omega)
    | refine Gr.mk (fun g => ?_) (fun g => ?_) <;> (try simp only [nm] at g) <;> try (exfalso; first | contradiction | omega)
    | (refine Run.of ?_; simp (maxSteps := 1000000) (disch := first | omega | assumption | (simp; done) | fail) [*, idx9, cutAB, cutA, cutB, wrap_i64, wrap_nn, ext_size, beq_bytes, app_size, catIf, bemp, idx43])
  all_goals (try (refine Kx.mk ?_; refine owes_r (l := [.tmp 2]) (.inr rfl) hwf rfl (by first | (simp (maxDischargeDepth := 20) [*]; done) | (repeat (first | exact AS.Ext.refl _ | assumption | refine AS.Ext.bump ?_ | refine AS.Ext.setBox (by first | omega | (simp; omega) | (simp; done)) ?_))) ?_ <;> (try simp (maxDischargeDepth := 20) [resP, packed, plain1_agg, plain1_sl, bemp, and_assoc, aload, partOf, *]) <;> (try ((repeat' apply And.intro) <;> first | omega | fail))))
  all_goals first | (refine Kt_loop ⟨_, ?_, i + 1, rfl, ?_⟩ <;> (repeat' apply And.intro) <;> first | omega | rfl | assumption | (exact ⟨_, rfl⟩) | (simp (disch := first | omega | assumption | (simp; done) | fail) [*, idx9, cutAB, cutA, cutB, wrap_i64, wrap_nn, ext_size, beq_bytes, app_size, catIf, bemp]; done) | exact ⟨rows, by simp [*], hl, hr⟩ | ((repeat (first | exact AS.Ext.refl _ | assumption | refine AS.Ext.bump ?_ | refine AS.Ext.setBox (by first | omega | (simp; omega) | (simp; done)) ?_)); done) | (simp [*]; omega) | fail) | skip
set_option maxHeartbeats 4000000
theorem rowsInt {rows : List (List PV)} (h : ∀ r ∈ rows, ∃ n : Int, r = [.val (.int .u8 n)]) : ∃ f : Nat → Int, ∀ j (hj : j < rows.length), rows[j] = [.val (.int .u8 (f j))] := by
  induction rows with
  | nil => exact ⟨fun _ => 0, fun j hj => absurd hj (by simp)⟩
  | cons r rs ih =>
    obtain ⟨w, rfl⟩ := h r (by simp)
    obtain ⟨f, hf⟩ := ih fun r hr => h r (by simp [hr])
    refine ⟨fun j => match j with | 0 => w | j + 1 => f j, fun j hj => ?_⟩
    cases j with
    | zero => rfl
    | succ j => simp at hj ⊢; exact hf j (by omega)
theorem convId (id n : Nat) : aConvert Tryz.prog 200 200 (.msl id n 1) = none ∧ aToString Tryz.prog 200 200 (.msl id n 1) = none ∧ ∀ H, aToStringM Tryz.prog H 200 200 (.msl id n 1) = none := by
  refine ⟨?_, ?_, fun H => ?_⟩
  · unfold aConvert; rw [under200]
  · unfold aToString; rw [under200]
  · unfold aToStringM; rw [under200]
theorem toOwn {H : AS} {id n : Nat} (h : (H.box id).map List.length = some n) : aToBytes Tryz.prog H 200 200 (.msl id n 1) = some (.msl id n 1, H) := by
  obtain ⟨rows, hb, hl⟩ := Option.map_eq_some_iff.1 h
  unfold aToBytes; rw [under200]; simp [under5, hb, hl]
theorem wMark (H : AS) (s : ByteArray) (a : Int) (hs : s.size ≤ 65536) (h0 : 0 ≤ a) (ha : a < s.size) : ACalls Tryz.prog 109 [ps s, pi a] H fun q H' => (∃ n : Int, q = pi n ∧ 0 ≤ n ∧ a + n ≤ s.size) ∧ H' = H := by
  refine ACalls_intro Tryz.func109 rfl (by kernel_rfl) (by simp) fun hwf hbel => ?_
  repeat' first
    | refine T_seq ?_
    | refine T_rgn ?_
    | refine T_cd ?_
    | refine T_sk ?_
    | refine T_rt ?_
    | refine T_block ?_
    | refine T_ex ?_
    | refine Kt_then ?_
    | refine Kt_block ?_
    | refine Kr_then ?_
    | refine Kr_block ?_
    | refine Ke_here ?_
    | refine Ke_then ?_
    | refine Hid.mk ?_
    | (refine eitherK.raw ?_; simp (maxSteps := 1000000) (disch := first | omega | assumption | (simp; done) | fail) [*, idx9, cutAB, cutA, cutB, wrap_i64, wrap_nn, ext_size, beq_bytes, app_size, catIf, bemp, idx43, idx200, convId, toOwn])
    | refine Gs.mk (fun g => ?_) (fun g => ?_) <;> (try simp only [nm] at g) <;> try (exfalso; first | contradiction | omega)
    | refine Gr.mk (fun g => ?_) (fun g => ?_) <;> (try simp only [nm] at g) <;> try (exfalso; first | contradiction | omega)
    | (refine Run.of ?_; simp (maxSteps := 1000000) (disch := first | omega | assumption | (simp; done) | fail) [*, idx9, cutAB, cutA, cutB, wrap_i64, wrap_nn, ext_size, beq_bytes, app_size, catIf, bemp, idx43, idx200, convId, toOwn])
  all_goals (try (refine Kx.mk ?_; refine owes_r (l := [.tmp 4]) (.inr rfl) hwf rfl (by first | (simp (maxDischargeDepth := 20) [*]; done) | (repeat (first | exact AS.Ext.refl _ | assumption | refine AS.Ext.bump ?_ | refine AS.Ext.setBox (by first | omega | (simp; omega) | (simp; done)) ?_))) ?_ <;> (try simp (maxDischargeDepth := 20) [resP, packed, plain1_agg, plain1_sl, bemp, and_assoc, aload, partOf, *]) <;> (try ((repeat' apply And.intro) <;> first | omega | fail))))
  refine T_lp (fun k F H' => ∃ i : Nat, k = 6 - i ∧ F 0 = ps s ∧ F 1 = pi a ∧ F 9 = .msl H.next 6 1 ∧ F 10 = pi 6 ∧ F 11 = pi i ∧ i ≤ 6 ∧ (∃ rows, H'.box H.next = some rows ∧ rows.length = 6 ∧ ∀ r ∈ rows, ∃ w : ByteArray, r = [ps w]) ∧ H.Ext H') (6) ?_ ?_
  · refine ⟨0, ?_⟩ <;> (repeat' apply And.intro) <;> first | omega | rfl | assumption | (exact ⟨_, rfl⟩) | (simp (disch := first | omega | assumption | (simp; done) | fail) [*, idx9, cutAB, cutA, cutB, wrap_i64, wrap_nn, ext_size, beq_bytes, app_size, catIf, bemp]; done) | exact ⟨_, box_sb _ _ _ _, rfl, by simp⟩ | ((repeat (first | exact AS.Ext.refl _ | assumption | refine AS.Ext.bump ?_ | refine AS.Ext.setBox (by first | omega | (simp; omega) | (simp; done)) ?_)); done) | (simp [*]; omega) | fail
  rintro k F H1 ⟨i, rfl, g0, g1, g9, g10, g11, hi, ⟨rows, hb, hl, hr⟩, hx⟩
  obtain ⟨f, hf⟩ := rowsStr hr
  have hnx := hx.next
  repeat' first
    | refine T_seq ?_
    | refine T_rgn ?_
    | refine T_cd ?_
    | refine T_sk ?_
    | refine T_rt ?_
    | refine T_block ?_
    | refine T_ex ?_
    | refine Kt_then ?_
    | refine Kt_block ?_
    | refine Kr_then ?_
    | refine Kr_block ?_
    | refine Kr_loop ?_
    | refine Ke_here ?_
    | refine Ke_then ?_
    | refine Ke_loop ?_
    | refine Ke_block ?_
    | refine Hid.mk ?_
    | (refine eitherK.raw ?_; simp (maxSteps := 1000000) (disch := first | omega | assumption | (simp; done) | fail) [*, idx9, cutAB, cutA, cutB, wrap_i64, wrap_nn, ext_size, beq_bytes, app_size, catIf, bemp, idx43, idx200, convId, toOwn])
    | refine Gs.mk (fun g => ?_) (fun g => ?_) <;> (try simp only [nm] at g) <;> try (exfalso; first | contradiction | omega)
    | refine Gr.mk (fun g => ?_) (fun g => ?_) <;> (try simp only [nm] at g) <;> try (exfalso; first | contradiction | omega)
    | (refine Run.of ?_; simp (maxSteps := 1000000) (disch := first | omega | assumption | (simp; done) | fail) [*, idx9, cutAB, cutA, cutB, wrap_i64, wrap_nn, ext_size, beq_bytes, app_size, catIf, bemp, idx43, idx200, convId, toOwn])
  all_goals (try (refine Kx.mk ?_; refine owes_r (l := [.tmp 4]) (.inr rfl) hwf rfl (by first | (simp (maxDischargeDepth := 20) [*]; done) | (repeat (first | exact AS.Ext.refl _ | assumption | refine AS.Ext.bump ?_ | refine AS.Ext.setBox (by first | omega | (simp; omega) | (simp; done)) ?_))) ?_ <;> (try simp (maxDischargeDepth := 20) [resP, packed, plain1_agg, plain1_sl, bemp, and_assoc, aload, partOf, *]) <;> (try ((repeat' apply And.intro) <;> first | omega | fail))))
  all_goals first | (refine Kt_loop ⟨_, ?_, i + 1, rfl, ?_⟩ <;> (repeat' apply And.intro) <;> first | omega | rfl | assumption | (exact ⟨_, rfl⟩) | (simp (disch := first | omega | assumption | (simp; done) | fail) [*, idx9, cutAB, cutA, cutB, wrap_i64, wrap_nn, ext_size, beq_bytes, app_size, catIf, bemp]; done) | exact ⟨rows, by simp [*], hl, hr⟩ | ((repeat (first | exact AS.Ext.refl _ | assumption | refine AS.Ext.bump ?_ | refine AS.Ext.setBox (by first | omega | (simp; omega) | (simp; done)) ?_)); done) | (simp [*]; omega) | fail) | skip
  all_goals (try (refine Kx.mk ?_; refine owes_r (l := [.tmp 4]) (.inr rfl) hwf rfl (by first | (simp (maxDischargeDepth := 20) [*]; done) | (repeat (first | exact AS.Ext.refl _ | assumption | refine AS.Ext.bump ?_ | refine AS.Ext.setBox (by first | omega | (simp; omega) | (simp; done)) ?_))) ?_ <;> (try simp (maxDischargeDepth := 20) [resP, packed, plain1_agg, plain1_sl, bemp, and_assoc, aload, partOf, *]) <;> (try ((repeat' apply And.intro) <;> first | omega | fail))))
  all_goals (
    refine T_lp (fun k F H' => ∃ (i id : Nat), k = 18 - i ∧ F 0 = ps s ∧ F 1 = pi a ∧ F 31 = .msl id 18 1 ∧ F 32 = pi 18 ∧ F 33 = pi i ∧ i ≤ 18 ∧ (∃ rows, H'.box id = some rows ∧ rows.length = 18 ∧ ∀ r ∈ rows, ∃ n : Int, r = [.val (.int .u8 n)]) ∧ H.Ext H') (18) ?_ ?_
    · refine ⟨0, H1.next, ?_⟩ <;> (repeat' apply And.intro) <;> first | omega | rfl | assumption | (exact ⟨_, rfl⟩) | (simp (disch := first | omega | assumption | (simp; done) | fail) [*, idx9, cutAB, cutA, cutB, wrap_i64, wrap_nn, ext_size, beq_bytes, app_size, catIf, bemp]; done) | exact ⟨_, box_sb _ _ _ _, rfl, by simp⟩ | ((repeat (first | exact AS.Ext.refl _ | assumption | refine AS.Ext.bump ?_ | refine AS.Ext.setBox (by first | omega | (simp; omega) | (simp; done)) ?_)); done) | (simp [*]; omega) | fail
    rintro k F H1 ⟨i, id, rfl, g0, g1, g31, g32, g33, hi, ⟨rows, hb, hl, hr⟩, hx⟩
    obtain ⟨f, hf⟩ := rowsInt hr
    have hnx := hx.next
    repeat' first
      | refine T_seq ?_
      | refine T_rgn ?_
      | refine T_cd ?_
      | refine T_sk ?_
      | refine T_rt ?_
      | refine T_block ?_
      | refine T_ex ?_
      | refine Kt_then ?_
      | refine Kt_block ?_
      | refine Kr_then ?_
      | refine Kr_block ?_
      | refine Kr_loop ?_
      | refine Ke_here ?_
      | refine Ke_then ?_
      | refine Ke_loop ?_
      | refine Ke_block ?_
      | refine Hid.mk ?_
      | (refine eitherK.raw ?_; simp (maxSteps := 1000000) (disch := first | omega | assumption | (simp; done) | fail) [*, idx9, cutAB, cutA, cutB, wrap_i64, wrap_nn, ext_size, beq_bytes, app_size, catIf, bemp, idx43, idx200, convId, toOwn])
      | refine Gs.mk (fun g => ?_) (fun g => ?_) <;> (try simp only [nm] at g) <;> try (exfalso; first | contradiction | omega)
      | refine Gr.mk (fun g => ?_) (fun g => ?_) <;> (try simp only [nm] at g) <;> try (exfalso; first | contradiction | omega)
      | (refine Run.of ?_; simp (maxSteps := 1000000) (disch := first | omega | assumption | (simp; done) | fail) [*, idx9, cutAB, cutA, cutB, wrap_i64, wrap_nn, ext_size, beq_bytes, app_size, catIf, bemp, idx43, idx200, convId, toOwn])
    all_goals (try (refine Kx.mk ?_; refine owes_r (l := [.tmp 4]) (.inr rfl) hwf rfl (by first | (simp (maxDischargeDepth := 20) [*]; done) | (repeat (first | exact AS.Ext.refl _ | assumption | refine AS.Ext.bump ?_ | refine AS.Ext.setBox (by first | omega | (simp; omega) | (simp; done)) ?_))) ?_ <;> (try simp (maxDischargeDepth := 20) [resP, packed, plain1_agg, plain1_sl, bemp, and_assoc, aload, partOf, *]) <;> (try ((repeat' apply And.intro) <;> first | omega | fail))))
    all_goals first | (refine Kt_loop ⟨_, ?_, i + 1, id, rfl, ?_⟩ <;> (repeat' apply And.intro) <;> first | omega | rfl | assumption | (exact ⟨_, rfl⟩) | (simp (disch := first | omega | assumption | (simp; done) | fail) [*, idx9, cutAB, cutA, cutB, wrap_i64, wrap_nn, ext_size, beq_bytes, app_size, catIf, bemp]; done) | exact ⟨rows, by simp [*], hl, hr⟩ | ((repeat (first | exact AS.Ext.refl _ | assumption | refine AS.Ext.bump ?_ | refine AS.Ext.setBox (by first | omega | (simp; omega) | (simp; done)) ?_)); done) | (simp [*]; omega) | fail) | skip)
set_option maxHeartbeats 4000000
theorem ext_set {H H' : AS} {id : Nat} {a b : List (List PV)} (hid : id < H.next) (h : (H.setBox id a).Ext H') : (H.setBox id b).Ext (H'.setBox id b) := by
  refine ⟨by have := h.next; simpa using this, fun j hj => ?_, fun j hj => ?_, by have := h.color; simpa using this⟩
  · have := h.box j hj
    by_cases e : j = id
    · simp [e]
    · simp [e] at this ⊢; exact this
  · have := h.mp j hj; simpa using this
theorem ext_set2 {H H' : AS} {id : Nat} {b : List (List PV)} (hid : id < H.next) (h : H.Ext H') : (H.setBox id b).Ext (H'.setBox id b) := by
  refine ⟨by have := h.next; simpa using this, fun j hj => ?_, fun j hj => ?_, by have := h.color; simpa using this⟩
  · have := h.box j hj
    by_cases e : j = id
    · simp [e]
    · simp [e]; exact this
  · have := h.mp j hj; simpa using this
theorem rItem (H : AS) (id c : Nat) (en : Int) (r : LRd) (hb : H.box id = some [r.row c en]) (hg : r.good) : ACalls Tryz.prog 89 [.ptr id 1 0 0] H fun q H' => ∃ (r' : LRd) (t : ByteArray), q = ps t ∧ r.to r' ∧ t.size ≤ 262145 ∧ (r'.mu < r.mu ∨ r'.mu = 0) ∧ H' = H.setBox id [r'.row c en] := by
  skip
  all_goals (refine ACalls_intro Tryz.func89 rfl (by kernel_rfl) (by simp) fun hwf hbel => ?_)
  all_goals have hid := (hwf.box _ _ hb).1
  all_goals have hid1 : ¬ id = H.next := by omega
  all_goals have hid2 : ¬ id = H.next + 1 := by omega
  all_goals have hid3 : ¬ H.next = id := by omega
  all_goals have hid4 : ¬ H.next + 1 = id := by omega
  all_goals (
    repeat' first
      | refine T_seq ?_
      | refine T_rgn ?_
      | refine T_cd ?_
      | refine T_sk ?_
      | refine T_rt ?_
      | refine T_block ?_
      | refine T_ex ?_
      | refine Kt_then ?_
      | refine Kt_block ?_
      | refine Kr_then ?_
      | refine Kr_block ?_
      | refine Ke_here ?_
      | refine Ke_then ?_
      | refine Hid.mk ?_
      | (refine callR (rName H _ _ _ _ hb) ?_; rintro _ Hz ⟨n1, tx1, rfl, hno1, htx1, hnm1, hz⟩; have htx1 := htx1 hg; subst Hz)
      | (refine callR (rHave _ _ _ _ _ (by first | assumption | exact box_self _ _ _) _) ?_; rintro _ Hz ⟨vb2, q2, rfl, hto2, hmu2, hz⟩; subst Hz)
      | (refine callR (rName _ _ _ _ _ (by first | assumption | exact box_self _ _ _)) ?_; rintro _ Hz ⟨n3, tx3, rfl, hno3, htx3, hnm3, hz⟩; have htx3 := htx3 ((hno1.trans hto2).good hg); subst Hz)
      | refine Gs.mk (fun g => ?_) (fun g => ?_) <;> (try simp only [nm] at g) <;> try (exfalso; first | contradiction | omega)
      | refine Gr.mk (fun g => ?_) (fun g => ?_) <;> (try simp only [nm] at g) <;> try (exfalso; first | contradiction | omega)
      | (refine Run.of ?_; simp (maxSteps := 1000000) (disch := first | omega | assumption | (simp; done) | fail) [*, setBox_setBox', idx9, cutAB, cutA, cutB, wrap_i64, wrap_nn, ext_size, beq_bytes, app_size, catIf, bemp]))
  all_goals first
    | ((first | refine Kx.mk ?_ | refine Kt.mk ?_); refine Owes.mono (k := fun q H' => q = ps tx1 ∧ H' = H.setBox id [LRd.row c en (q2)]) (fun q H' hq => ⟨q2, _, hq.1, hno1.trans hto2, by omega, by have := hto2.mu; omega, hq.2⟩) ?_; (refine owes_at (l := [.tmp 2]) (H1 := H.setBox id [LRd.row c en (q2)]) (by first | exact .inr rfl | exact .inl rfl) (wf_set hwf hb (LRd.below _ _ _ _)) (by simp) rfl ⟨by first | omega | (simp; done) | (simp; omega), fun j hj => by (simp only [next_setBox] at hj; have e1 : ¬ j = H.next := (by omega); have e2 : ¬ j = H.next + 1 := (by omega); by_cases e3 : j = id <;> simp [e3, box_setBox, e1, e2, show ¬ id = H.next by omega, show ¬ id = H.next + 1 by omega, LRd.row_mk, LTok.row, hb]), fun j hj => by simp, by simp⟩ ?_ <;> (try simp (maxDischargeDepth := 20) [resP, packed, plain1_agg, plain1_sl, aload, partOf, LRd.row_mk, LTok.row, *])); done)
    | ((first | refine Kx.mk ?_ | refine Kt.mk ?_); refine Owes.mono (k := fun q H' => q = ps (tx1 ++ (⟨#[46]⟩ ++ tx3)) ∧ H' = H.setBox id [LRd.row c en (n3)]) (fun q H' hq => ⟨n3, _, hq.1, (hno1.trans hto2).trans hno3, by (simp [app_size]; have h3 : (ByteArray.mk #[46]).size = 1 := rfl; omega), by have := hto2.mu; have := hno3.mu; omega, hq.2⟩) ?_; (refine owes_at (l := [.tmp 2]) (H1 := H.setBox id [LRd.row c en (n3)]) (by first | exact .inr rfl | exact .inl rfl) (wf_set hwf hb (LRd.below _ _ _ _)) (by simp) rfl ⟨by first | omega | (simp; done) | (simp; omega), fun j hj => by (simp only [next_setBox] at hj; have e1 : ¬ j = H.next := (by omega); have e2 : ¬ j = H.next + 1 := (by omega); by_cases e3 : j = id <;> simp [e3, box_setBox, e1, e2, show ¬ id = H.next by omega, show ¬ id = H.next + 1 by omega, LRd.row_mk, LTok.row, hb]), fun j hj => by simp, by simp⟩ ?_ <;> (try simp (maxDischargeDepth := 20) [resP, packed, plain1_agg, plain1_sl, aload, partOf, LRd.row_mk, LTok.row, *])); done)
theorem rMarked (H : AS) (id c : Nat) (en : Int) (r : LRd) (hb : H.box id = some [r.row c en]) : ACalls Tryz.prog 88 [.ptr id 1 0 0] H fun q H' => ∃ (x : Int) (r' : LRd), q = pi x ∧ 0 ≤ x ∧ x ≤ 3 ∧ r.to r' ∧ H' = H.setBox id [r'.row c en] := by
  refine ACalls_intro Tryz.func88 rfl (by kernel_rfl) (by simp) fun hwf hbel => ?_
  have hid := (hwf.box _ _ hb).1
  have hid1 : ¬ id = H.next := by omega
  have hid3 : ¬ H.next = id := by omega
  repeat' first
    | refine T_seq ?_
    | refine T_rgn ?_
    | refine T_cd ?_
    | refine T_sk ?_
    | refine T_rt ?_
    | refine T_block ?_
    | refine T_ex ?_
    | refine Kt_then ?_
    | refine Kt_block ?_
    | refine Kr_then ?_
    | refine Kr_block ?_
    | refine Ke_here ?_
    | refine Ke_then ?_
    | refine Hid.mk ?_
    | (refine eitherK.raw ?_; simp (maxSteps := 1000000) (disch := first | omega | assumption | (simp; done) | fail) [*, idx9, cutAB, cutA, cutB, wrap_i64, wrap_nn, ext_size, beq_bytes, app_size, catIf, bemp, idx43])
    | (refine callR (rHave _ _ _ _ _ (by first | assumption | exact box_self _ _ _) _) ?_; rintro _ Hz ⟨vb1, q1, rfl, hto1, hmu1, hz⟩; subst Hz)
    | refine Gs.mk (fun g => ?_) (fun g => ?_) <;> (try simp only [nm] at g) <;> try (exfalso; first | contradiction | omega)
    | refine Gr.mk (fun g => ?_) (fun g => ?_) <;> (try simp only [nm] at g) <;> try (exfalso; first | contradiction | omega)
    | (refine Run.of ?_; simp (maxSteps := 1000000) (disch := first | omega | assumption | (simp; done) | fail) [*, idx9, cutAB, cutA, cutB, wrap_i64, wrap_nn, ext_size, beq_bytes, app_size, catIf, bemp, idx43])
  all_goals (try (first | ((first | refine Kx.mk ?_ | refine Kt.mk ?_); refine Owes.mono (k := fun q H' => q = pi (i + 1) ∧ H' = H.setBox id [LRd.row c en (q1)]) (fun q H' hq => ⟨_, q1, hq.1, by omega, by omega, hto.trans hto1, hq.2⟩) ?_; (refine owes_at (l := [.tmp 2]) (H1 := H.setBox id [LRd.row c en (q1)]) (by first | exact .inr rfl | exact .inl rfl) (wf_set hwf hb (LRd.below _ _ _ _)) (by simp) rfl (by first | exact ext_set hid (by assumption) | assumption) ?_ <;> (try simp (maxDischargeDepth := 20) [resP, packed, plain1_agg, plain1_sl, aload, partOf, LRd.row_mk, LTok.row, *])); done) | ((first | refine Kx.mk ?_ | refine Kt.mk ?_); refine Owes.mono (k := fun q H' => q = pi 0 ∧ H' = H.setBox id [LRd.row c en (p)]) (fun q H' hq => ⟨0, p, hq.1, by omega, by omega, hto, hq.2⟩) ?_; (refine owes_at (l := [.tmp 2]) (H1 := H.setBox id [LRd.row c en (p)]) (by first | exact .inr rfl | exact .inl rfl) (wf_set hwf hb (LRd.below _ _ _ _)) (by simp) rfl (by first | exact ext_set hid (by assumption) | assumption) ?_ <;> (try simp (maxDischargeDepth := 20) [resP, packed, plain1_agg, plain1_sl, aload, partOf, LRd.row_mk, LTok.row, *])); done)))
  refine T_lp (fun k F H' => ∃ (i : Nat) (p : LRd), k = 3 - i ∧ F 0 = .ptr id 1 0 0 ∧ F 5 = .msl H.next 3 1 ∧ F 6 = pi 3 ∧ F 7 = pi i ∧ i ≤ 3 ∧ r.to p ∧ H'.box id = some [p.row c en] ∧ (∃ rows, H'.box H.next = some rows ∧ rows.length = 3 ∧ ∀ r ∈ rows, ∃ w : ByteArray, r = [ps w]) ∧ (H.setBox id [p.row c en]).Ext H') (3) ?_ ?_
  · refine ⟨0, r, ?_⟩ <;> (repeat' apply And.intro) <;> first | omega | rfl | assumption | (exact ⟨_, rfl⟩) | (simp (disch := first | omega | assumption | (simp; done) | fail) [*, idx9, cutAB, cutA, cutB, wrap_i64, wrap_nn, ext_size, beq_bytes, app_size, catIf, bemp]; done) | exact LRd.to.refl _ | exact ⟨_, box_sb _ _ _ _, rfl, by simp⟩ | exact ⟨by first | omega | (simp; done) | (simp; omega), fun j hj => by (simp only [next_setBox] at hj; have e1 : ¬ j = H.next := (by omega); have e2 : ¬ j = H.next + 1 := (by omega); by_cases e3 : j = id <;> simp [e3, box_setBox, e1, e2, show ¬ id = H.next by omega, show ¬ id = H.next + 1 by omega, LRd.row_mk, LTok.row, hb]), fun j hj => by simp, by simp⟩ | (simp [*]; omega) | fail
  rintro k F H1 ⟨i, p, rfl, g0, g5, g6, g7, hi, hto, hb1, ⟨rows, hb2, hl, hr⟩, hx⟩
  obtain ⟨f, hf⟩ := rowsStr hr
  have hnx := hx.next
  have hid1 : ¬ id = H.next := by omega
  have hid3 : ¬ H.next = id := by omega
  simp only [next_setBox] at hnx
  repeat' first
    | refine T_seq ?_
    | refine T_rgn ?_
    | refine T_cd ?_
    | refine T_sk ?_
    | refine T_rt ?_
    | refine T_block ?_
    | refine T_ex ?_
    | refine Kt_then ?_
    | refine Kt_block ?_
    | refine Kr_then ?_
    | refine Kr_block ?_
    | refine Kr_loop ?_
    | refine Ke_here ?_
    | refine Ke_then ?_
    | refine Ke_loop ?_
    | refine Ke_block ?_
    | refine Hid.mk ?_
    | (refine eitherK.raw ?_; simp (maxSteps := 1000000) (disch := first | omega | assumption | (simp; done) | fail) [*, idx9, cutAB, cutA, cutB, wrap_i64, wrap_nn, ext_size, beq_bytes, app_size, catIf, bemp, idx43])
    | (refine callR (rHave _ _ _ _ _ (by first | assumption | exact box_self _ _ _) _) ?_; rintro _ Hz ⟨vb1, q1, rfl, hto1, hmu1, hz⟩; subst Hz)
    | refine Gs.mk (fun g => ?_) (fun g => ?_) <;> (try simp only [nm] at g) <;> try (exfalso; first | contradiction | omega)
    | refine Gr.mk (fun g => ?_) (fun g => ?_) <;> (try simp only [nm] at g) <;> try (exfalso; first | contradiction | omega)
    | (refine Run.of ?_; simp (maxSteps := 1000000) (disch := first | omega | assumption | (simp; done) | fail) [*, idx9, cutAB, cutA, cutB, wrap_i64, wrap_nn, ext_size, beq_bytes, app_size, catIf, bemp, idx43])
  all_goals (try (first | ((first | refine Kx.mk ?_ | refine Kt.mk ?_); refine Owes.mono (k := fun q H' => q = pi (i + 1) ∧ H' = H.setBox id [LRd.row c en (q1)]) (fun q H' hq => ⟨_, q1, hq.1, by omega, by omega, hto.trans hto1, hq.2⟩) ?_; (refine owes_at (l := [.tmp 2]) (H1 := H.setBox id [LRd.row c en (q1)]) (by first | exact .inr rfl | exact .inl rfl) (wf_set hwf hb (LRd.below _ _ _ _)) (by simp) rfl (by first | exact ext_set hid (by assumption) | assumption) ?_ <;> (try simp (maxDischargeDepth := 20) [resP, packed, plain1_agg, plain1_sl, aload, partOf, LRd.row_mk, LTok.row, *])); done) | ((first | refine Kx.mk ?_ | refine Kt.mk ?_); refine Owes.mono (k := fun q H' => q = pi 0 ∧ H' = H.setBox id [LRd.row c en (p)]) (fun q H' hq => ⟨0, p, hq.1, by omega, by omega, hto, hq.2⟩) ?_; (refine owes_at (l := [.tmp 2]) (H1 := H.setBox id [LRd.row c en (p)]) (by first | exact .inr rfl | exact .inl rfl) (wf_set hwf hb (LRd.below _ _ _ _)) (by simp) rfl (by first | exact ext_set hid (by assumption) | assumption) ?_ <;> (try simp (maxDischargeDepth := 20) [resP, packed, plain1_agg, plain1_sl, aload, partOf, LRd.row_mk, LTok.row, *])); done)))
  all_goals first | (refine Kt_loop ⟨_, ?_, i + 1, q1, rfl, ?_⟩ <;> (repeat' apply And.intro) <;> first | omega | rfl | assumption | (exact ⟨_, rfl⟩) | (simp (disch := first | omega | assumption | (simp; done) | fail) [*, idx9, cutAB, cutA, cutB, wrap_i64, wrap_nn, ext_size, beq_bytes, app_size, catIf, bemp]; done) | exact hto.trans hto1 | exact ⟨rows, by simp [*], hl, hr⟩ | exact ext_set hid (by assumption) | (simp [*]; omega) | fail) | skip
end
end Go.Abs
