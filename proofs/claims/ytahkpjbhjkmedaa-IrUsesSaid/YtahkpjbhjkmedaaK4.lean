/- The abstract layer, part 4: how the tie is kept when memory is written, made and frozen. -/
import Derived.Test.YtahkpjbhjkmedaaK3
namespace Go.Abs
set_option autoImplicit false

/-- Values written one behind another. -/
def writeAll (vs : Array Value) (o : Nat) : List Value → Array Value
  | [] => vs
  | x :: xs => writeAll (vs.setIfInBounds o x) (o + 1) xs

theorem writeAll_size (xs : List Value) : ∀ (vs : Array Value) (o : Nat), (writeAll vs o xs).size = vs.size := by
  induction xs with
  | nil => intro vs o; rfl
  | cons x xs ih => intro vs o; rw [writeAll, ih]; simp

theorem writeAll_get (xs : List Value) : ∀ (vs : Array Value) (o k : Nat), o + xs.length ≤ vs.size →
    (writeAll vs o xs)[k]? = if o ≤ k ∧ k < o + xs.length then xs[k - o]? else vs[k]? := by
  induction xs with
  | nil => intro vs o k _; simp [writeAll]; intro h1 h2; omega
  | cons x xs ih =>
    intro vs o k hle
    simp only [List.length_cons] at hle
    rw [writeAll, ih _ _ _ (by simp; omega)]
    by_cases hk : k = o
    · subst hk
      rw [if_neg (by omega), if_pos (by simp)]
      have : k < vs.size := by omega
      simp [this]
    · by_cases h1 : o + 1 ≤ k ∧ k < o + 1 + xs.length
      · rw [if_pos h1, if_pos (by simp; omega)]
        obtain ⟨m, rfl⟩ : ∃ m, k = o + 1 + m := ⟨k - (o + 1), by omega⟩
        rw [show o + 1 + m - (o + 1) = m by omega, show o + 1 + m - o = m + 1 by omega]
        simp
      · rw [if_neg h1, if_neg (by simp; omega)]
        rw [Array.getElem?_setIfInBounds_ne (by omega)]

theorem setCell_heap (w : World) (b o : Nat) (v : Value) {vs : Array Value} {e : TypeId} {fz : Nat × Nat} (h : w.heap[b]? = some (.cells vs e fz)) :
    (w.setCell ⟨b, o, none⟩ v).heap[b]? = some (.cells (vs.setIfInBounds o v) e fz) := by
  simp [World.setCell, Array.getElem?_modify, h]
theorem setCell_heap_ne (w : World) (b o b' : Nat) (v : Value) (hb : b' ≠ b) : (w.setCell ⟨b, o, none⟩ v).heap[b']? = w.heap[b']? := by
  simp [World.setCell, Array.getElem?_modify, Ne.symm hb]

theorem setCells_heap (b : Nat) (xs : List Value) : ∀ (w : World) (o : Nat) (vs : Array Value) (e : TypeId) (fz : Nat × Nat), w.heap[b]? = some (.cells vs e fz) →
    (w.setCells b o xs).heap[b]? = some (.cells (writeAll vs o xs) e fz) := by
  induction xs with
  | nil => intro w o vs e fz h; exact h
  | cons x xs ih => intro w o vs e fz h; rw [World.setCells, writeAll]; exact ih _ _ _ _ _ (setCell_heap w b o x h)
theorem setCells_heap_ne (b b' : Nat) (hb : b' ≠ b) (xs : List Value) : ∀ (w : World) (o : Nat), (w.setCells b o xs).heap[b']? = w.heap[b']? := by
  induction xs with
  | nil => intro w o; rfl
  | cons x xs ih => intro w o; rw [World.setCells, ih, setCell_heap_ne _ _ _ _ _ hb]
theorem setCells_rest (b : Nat) (xs : List Value) : ∀ (w : World) (o : Nat), (w.setCells b o xs).os = w.os ∧ (w.setCells b o xs).output = w.output ∧ (w.setCells b o xs).tape = w.tape := by
  induction xs with
  | nil => intro w o; exact ⟨rfl, rfl, rfl⟩
  | cons x xs ih => intro w o; rw [World.setCells]; exact ih _ _

section
variable {P : Program} {G : Gh} {H : AS} {w : World}

@[simp] theorem setBox_box (H : AS) (id i : Nat) (rows : List (List PV)) : (H.setBox id rows).box i = if i = id then some rows else H.box i := rfl
@[simp] theorem setBox_mp (H : AS) (id : Nat) (rows : List (List PV)) : (H.setBox id rows).mp = H.mp := rfl
@[simp] theorem setBox_next (H : AS) (id : Nat) (rows : List (List PV)) : (H.setBox id rows).next = H.next := rfl
@[simp] theorem setBox_color (H : AS) (id : Nat) (rows : List (List PV)) : (H.setBox id rows).color = H.color := rfl
@[simp] theorem kill_box (H : AS) (id i : Nat) : (H.kill id).box i = if i = id then none else H.box i := rfl
@[simp] theorem kill_mp (H : AS) (id : Nat) : (H.kill id).mp = H.mp := rfl
@[simp] theorem kill_next (H : AS) (id : Nat) : (H.kill id).next = H.next := rfl
@[simp] theorem kill_color (H : AS) (id : Nat) : (H.kill id).color = H.color := rfl
@[simp] theorem bump_box (H : AS) (n : Nat) : (H.bump n).box = H.box := rfl
@[simp] theorem bump_mp (H : AS) (n : Nat) : (H.bump n).mp = H.mp := rfl
@[simp] theorem bump_next (H : AS) (n : Nat) : (H.bump n).next = H.next + n := rfl
@[simp] theorem bump_color (H : AS) (n : Nat) : (H.bump n).color = H.color := rfl
@[simp] theorem setMap_mp (H : AS) (id i : Nat) (es : List (Value × PV)) : (H.setMap id es).mp i = if i = id then some es else H.mp i := rfl
@[simp] theorem setMap_box (H : AS) (id : Nat) (es : List (Value × PV)) : (H.setMap id es).box = H.box := rfl
@[simp] theorem setMap_next (H : AS) (id : Nat) (es : List (Value × PV)) : (H.setMap id es).next = H.next := rfl
@[simp] theorem setMap_color (H : AS) (id : Nat) (es : List (Value × PV)) : (H.setMap id es).color = H.color := rfl

theorem BoxOk.other {w' : World} {id : Nat} {rows : List (List PV)} (h : BoxOk G w id rows) {b0 : Nat} (hne : ∀ b s c, G.view id rows.length = some (b, s, c) → b ≠ b0) (hw : ∀ b, b ≠ b0 → w'.heap[b]? = w.heap[b]?) : BoxOk G w' id rows := by
  obtain ⟨b, sz, cap, vs, elem, fz, hv, hh, rest⟩ := h
  exact ⟨b, sz, cap, vs, elem, fz, hv, by rw [hw b (hne _ _ _ hv)]; exact hh, rest⟩

/-- A live box is written: its rows turn, their number stays. -/
theorem Rel.write (h : Rel G H w) {id : Nat} {rows rows' : List (List PV)} (hb : H.box id = some rows) (hl : rows'.length = rows.length) {w' : World}
    (hnew : BoxOk G w' id rows') {b0 s0 c0 : Nat} (hv0 : G.view id rows.length = some (b0, s0, c0)) (hw : ∀ b, b ≠ b0 → w'.heap[b]? = w.heap[b]?)
    (hrest : w'.os = w.os ∧ w'.output = w.output ∧ w'.tape = w.tape) (hro : G.ro b0 = none) (hcells : ∃ vs e fz, w.heap[b0]? = some (.cells vs e fz)) : Rel G (H.setBox id rows') w' := by
  refine ⟨h.next, fun b c o e => ?_, fun i r hi => ?_, fun i j ri rj b s c s' c' hi hj e1 e2 => ?_, fun i es hi => ?_, h.minj, fun i r vl x hi hv => ?_, h.dom, h.mdom, by rw [hrest.1]; exact h.os, by rw [hrest.2.1]; exact h.out, by rw [hrest.2.2]; exact h.tape⟩
  · have : b ≠ b0 := fun e' => by subst e'; rw [hro] at e; cases e
    rw [hw b this]; exact h.ro _ _ _ e
  · simp only [setBox_box] at hi
    split at hi
    · rename_i hid; subst hid; cases hi; exact hnew
    · rename_i hid
      refine (h.box i r hi).other (b0 := b0) (fun b s c hv e => ?_) hw
      subst e
      exact hid (h.inj i id r rows b s c s0 c0 hi hb hv hv0)
  · simp only [setBox_box] at hi hj
    have key : ∀ (k : Nat) (rk : List (List PV)), (if k = id then some rows' else H.box k) = some rk → ∃ r0, H.box k = some r0 ∧ r0.length = rk.length := by
      intro k rk hk
      split at hk
      · rename_i e; subst e; cases hk; exact ⟨rows, hb, hl.symm⟩
      · exact ⟨rk, hk, rfl⟩
    obtain ⟨r1, hr1, l1⟩ := key i ri hi
    obtain ⟨r2, hr2, l2⟩ := key j rj hj
    rw [← l1] at e1; rw [← l2] at e2
    exact h.inj i j r1 r2 b s c s' c' hr1 hr2 e1 e2
  · obtain ⟨b, ents, clock, hv, hh, rest⟩ := h.mp i es hi
    refine ⟨b, ents, clock, hv, ?_, rest⟩
    by_cases e : b = b0
    · subst e; obtain ⟨vs, e, fz, hc⟩ := hcells; rw [hh] at hc; cases hc
    · rw [hw b e]; exact hh
  · simp only [setBox_box] at hi
    split at hi
    · rename_i hid; subst hid; cases hi; rw [hl]; exact h.vmax _ _ _ _ hb hv
    · exact h.vmax _ _ _ _ hi hv

/-- The ghost with a new view of a number. -/
def Gh.addView (G : Gh) (id vl b sz cap : Nat) (n : Nat) : Gh := { G with view := fun i l => if i = id ∧ l = vl then some (b, sz, cap) else G.view i l, next := n }

theorem Gh.le_addView {id vl b sz cap n : Nat} (hnone : G.view id vl = none) (hn : G.next ≤ n) : G.le (G.addView id vl b sz cap n) :=
  ⟨fun _ _ e => e, fun i l x e => by
    show (if i = id ∧ l = vl then _ else G.view i l) = some x
    split
    · rename_i c; rw [c.1, c.2] at e; rw [hnone] at e; cases e
    · exact e, fun _ _ e => e, hn, rfl⟩

theorem RowsAt.mono {G' : Gh} (hle : G.le G') {rows : List (List PV)} {f : Nat → Option Value} {sz : Nat}
    (h : ∀ (i : Nat) (r : List PV) (j : Nat) (p : PV), rows[i]? = some r → r[j]? = some p → ∃ v, f (i * sz + j) = some v ∧ Rep G p v) :
    ∀ (i : Nat) (r : List PV) (j : Nat) (p : PV), rows[i]? = some r → r[j]? = some p → ∃ v, f (i * sz + j) = some v ∧ Rep G' p v :=
  fun i r j p hi hj => let ⟨v, e, hr⟩ := h i r j p hi hj; ⟨v, e, hr.mono hle⟩

theorem BoxOk.mono {G' : Gh} (hle : G.le G') (hro : ∀ b, G'.ro b = G.ro b) {w' : World} (hw : ∀ (b : Nat) (o : Obj), w.heap[b]? = some o → w'.heap[b]? = some o) {id : Nat} {rows : List (List PV)} (h : BoxOk G w id rows) : BoxOk G' w' id rows := by
  obtain ⟨b, sz, cap, vs, elem, fz, hv, hh, h1, h2, h3, h4, h5, h7, h6⟩ := h
  exact ⟨b, sz, cap, vs, elem, fz, hle.view _ _ _ hv, hw _ _ hh, h1, h2, h3, h4, RowsAt.mono (f := fun k => vs[k]?) hle h5, h7, by rw [hro]; exact h6⟩

theorem MapOk.mono {G' : Gh} (hle : G.le G') (hro : ∀ b, G'.ro b = G.ro b) {w' : World} (hw : ∀ (b : Nat) (o : Obj), w.heap[b]? = some o → w'.heap[b]? = some o) {id : Nat} {es : List (Value × PV)} (h : MapOk G w id es) : MapOk G' w' id es := by
  obtain ⟨b, ents, clock, hv, hh, h1, h2, h3⟩ := h
  exact ⟨b, ents, clock, hle.mview _ _ hv, hw _ _ hh, h1, fun i e m hi hj => ⟨(h2 i e m hi hj).1, (h2 i e m hi hj).2.mono hle⟩, by rw [hro]; exact h3⟩

theorem Rel.lt (h : Rel G H w) {id : Nat} {rows : List (List PV)} (hb : H.box id = some rows) {b s c : Nat} (hv : G.view id rows.length = some (b, s, c)) : b < w.heap.size := by
  obtain ⟨b', sz, cap, vs, elem, fz, hv', hh, _⟩ := h.box id rows hb
  rw [hv] at hv'
  obtain ⟨rfl, rfl, rfl⟩ : b = b' ∧ s = sz ∧ c = cap := by simpa using hv'
  exact (Array.getElem?_eq_some_iff.1 hh).1

/-- A new box, numbered next, over a new block. -/
theorem Rel.alloc (h : Rel G H w) {rows : List (List PV)} {sz cap : Nat} {vs : Array Value} {elem : TypeId} {fz : Nat × Nat} {w' : World} (hw : w'.heap = w.heap.push (.cells vs elem fz))
    (hrest : w'.os = w.os ∧ w'.output = w.output ∧ w'.tape = w.tape) (hfz : ∀ o, o < vs.size → ¬ (fz.1 ≤ o ∧ o < fz.2)) (hcap : cap * sz ≤ vs.size) (hlen : rows.length ≤ cap) (hrows : ∀ r ∈ rows, r.length = sz)
    (hc : ∀ (i : Nat) (r : List PV) (j : Nat) (p : PV), rows[i]? = some r → r[j]? = some p → ∃ v, vs[i * sz + j]? = some v ∧ Rep G p v) (h1c : ∀ (o : Nat) (v : Value), vs[o]? = some v → v.oneCell' = true) :
    let G' := G.addView H.next rows.length w.heap.size sz cap (H.next + 1)
    G.le G' ∧ Rel G' ((H.setBox H.next rows).bump 1) w' ∧ G'.view H.next rows.length = some (w.heap.size, sz, cap) := by
  intro G'
  have hnone : ∀ vl, G.view H.next vl = none := fun vl => by
    cases e : G.view H.next vl with
    | none => rfl
    | some x => have := h.dom _ _ _ e; rw [h.next] at this; omega
  have hle : G.le G' := Gh.le_addView (hnone _) (by rw [h.next]; omega)
  have hget : ∀ (b : Nat) (o : Obj), w.heap[b]? = some o → w'.heap[b]? = some o := fun b o e => by
    have hlt := (Array.getElem?_eq_some_iff.1 e).1
    rw [hw, Array.getElem?_push, if_neg (by omega)]; exact e
  have hbn : H.box H.next = none := by
    cases e : H.box H.next with
    | none => rfl
    | some r => have := (h.wf.box _ _ e).1; omega
  have hvG' : G'.view H.next rows.length = some (w.heap.size, sz, cap) := by simp [G', Gh.addView]
  have hvne : ∀ i l, i ≠ H.next → G'.view i l = G.view i l := fun i l hi => by simp [G', Gh.addView, hi]
  have hronew : G.ro w.heap.size = none := by
    cases e : G.ro w.heap.size with
    | none => rfl
    | some x => obtain ⟨c, o⟩ := x; have := (Array.getElem?_eq_some_iff.1 (h.ro _ _ _ e)).1; omega
  refine ⟨hle, ⟨rfl, fun b c o e => hget _ _ (h.ro _ _ _ e), fun i r hi => ?_, fun i j ri rj b s c s' c' hi hj e1 e2 => ?_, fun i es hi => ?_, fun i j ri rj b hi hj e1 e2 => h.minj i j ri rj b hi hj e1 e2, fun i r vl x hi hv => ?_, fun i l x e => ?_, fun i x e => ?_, by rw [hrest.1]; exact h.os, by rw [hrest.2.1]; exact h.out, by rw [hrest.2.2]; exact h.tape⟩, hvG'⟩
  · simp only [bump_box, setBox_box] at hi
    split at hi
    · rename_i hid; subst hid; cases hi
      exact ⟨w.heap.size, sz, cap, vs, elem, fz, hvG', by rw [hw]; simp, hfz, hcap, hlen, hrows, RowsAt.mono (f := fun k => vs[k]?) hle hc, h1c, hronew⟩
    · exact (h.box i r hi).mono hle (fun _ => rfl) hget
  · simp only [bump_box, setBox_box] at hi hj
    by_cases h1 : i = H.next
    · by_cases h2 : j = H.next
      · omega
      · rw [if_pos h1] at hi; rw [if_neg h2] at hj; cases hi
        subst h1
        rw [hvG'] at e1
        rw [hvne _ _ h2] at e2
        have := h.lt hj e2
        simp at e1
        omega
    · rw [if_neg h1] at hi
      rw [hvne _ _ h1] at e1
      by_cases h2 : j = H.next
      · rw [if_pos h2] at hj; cases hj
        subst h2
        rw [hvG'] at e2
        have := h.lt hi e1
        simp at e2
        omega
      · rw [if_neg h2] at hj
        rw [hvne _ _ h2] at e2
        exact h.inj i j ri rj b s c s' c' hi hj e1 e2
  · exact (h.mp i es hi).mono hle (fun _ => rfl) hget
  · simp only [bump_box, setBox_box] at hi
    by_cases hid : i = H.next
    · subst hid
      rw [if_pos rfl] at hi; cases hi
      by_cases e : vl = rows.length
      · omega
      · have : G'.view H.next vl = G.view H.next vl := by simp [G', Gh.addView, e]
        rw [this, hnone] at hv; cases hv
    · rw [if_neg hid] at hi
      rw [hvne _ _ hid] at hv
      exact h.vmax _ _ _ _ hi hv
  · by_cases hid : i = H.next
    · subst hid; show H.next < H.next + 1; omega
    · rw [hvne _ _ hid] at e
      have := h.dom _ _ _ e
      rw [h.next] at this
      show i < H.next + 1; omega
  · have := h.mdom _ _ e
    rw [h.next] at this
    show i < H.next + 1; omega

/-- Freezing a live box. -/
theorem Rel.freeze (h : Rel G H w) {id : Nat} {rows : List (List PV)} (hb : H.box id = some rows) :
    ∃ G', G.le G' ∧ Rel G' (H.kill id) w ∧ ∀ sz v, Rep G (.msl id rows.length sz) v → Rep G' (PV.sl H.color sz rows) v := by
  obtain ⟨b, sz, cap, vs, elem, fz, hv, hh, hfz, hcap, hlen, hrows, hc, h1c, hro⟩ := h.box id rows hb
  let G' : Gh := { G with ro := fun x => if x = b then some (H.color, .cells vs elem fz) else G.ro x }
  have hle : G.le G' := ⟨fun x y e => by
    show (if x = b then _ else G.ro x) = some y
    split
    · rename_i c; rw [c, hro] at e; cases e
    · exact e, fun _ _ _ e => e, fun _ _ e => e, Nat.le_refl _, rfl⟩
  have hcell : ∀ o v, vs[o]? = some v → G'.cell H.color b o = some v := fun o v e => by simp [Gh.cell, G', e]
  refine ⟨G', hle, ⟨h.next, fun x c o e => ?_, fun i r hi => ?_, fun i j ri rj b s c s' c' hi hj e1 e2 => ?_, fun i es hi => ?_, h.minj, fun i r vl x hi hvv => ?_, h.dom, h.mdom, h.os, h.out, h.tape⟩, fun s v hr => ?_⟩
  · simp only [G'] at e
    split at e
    · rename_i c; cases e; rw [c]; exact hh
    · exact h.ro _ _ _ e
  · simp only [kill_box] at hi
    split at hi
    · cases hi
    · rename_i hid
      obtain ⟨b', sz', cap', vs', elem', fz', hv', hh', h1, h2, h3, h4, h5, h7, h6⟩ := h.box i r hi
      have hne : b' ≠ b := fun e => by subst e; exact hid (h.inj i id r rows b' sz' cap' sz cap hi hb hv' hv)
      exact ⟨b', sz', cap', vs', elem', fz', hv', hh', h1, h2, h3, h4, RowsAt.mono (f := fun k => vs'[k]?) hle h5, h7, by simp [G', hne, h6]⟩
  · simp only [kill_box] at hi hj
    split at hi
    · cases hi
    · split at hj
      · cases hj
      · exact h.inj i j ri rj b s c s' c' hi hj e1 e2
  · obtain ⟨b', ents, clock, hv', hh', h1, h2, h3⟩ := h.mp i es hi
    have hne : b' ≠ b := fun e => by subst e; rw [hh] at hh'; cases hh'
    exact ⟨b', ents, clock, hv', hh', h1, fun i e m hi hj => ⟨(h2 i e m hi hj).1, (h2 i e m hi hj).2.mono hle⟩, by simp [G', hne, h3]⟩
  · simp only [kill_box] at hi
    split at hi
    · cases hi
    · exact h.vmax _ _ _ _ hi hvv
  · cases hr with
    | msl e =>
      rename_i b' cap'
      rw [hv] at e
      obtain ⟨rfl, rfl, rfl⟩ : b = b' ∧ sz = s ∧ cap = cap' := by simpa using e
      cases hrw : rows with
      | nil =>
        simp only [PV.sl_nil, List.length_nil]
        exact .slice (rows := []) (fun _ _ => undef) (by simp) (by simp) (by simp) (by simp) (by simp)
      | cons r0 rs =>
        rw [← hrw]
        have : PV.sl H.color sz rows = .slice H.color sz rows := by rw [hrw]; rfl
        rw [this]
        refine .slice (fun i j => (vs[i * sz + j]?).getD undef) hlen (fun i r hi => hrows r (List.mem_of_getElem? hi)) (fun i r j p hi hj => ?_) (fun i r j p hi hj => ?_) (fun i r j p hi hj => ?_)
        · obtain ⟨v, e, _⟩ := hc i r j p hi hj
          rw [Nat.zero_add, hcell _ v e, e]; rfl
        · obtain ⟨v, e, _⟩ := hc i r j p hi hj
          rw [e]; exact h1c _ _ e
        · obtain ⟨v, e, hrep⟩ := hc i r j p hi hj
          rw [e]; exact hrep.mono hle

end
end Go.Abs
