/- The abstract layer, part 1: abstract values, abstract memory, the ghost that ties them to a world, and that the tie is kept when the ghost grows. -/
import Derived.Calls
import Derived.Orders
import Derived.KernelRfl
import Derived.Laws.IdiomCopy
namespace Go.Abs
set_option autoImplicit false

/-- Abstract values. 'val': that very value. 'junk': whatever stands there. -/
inductive PV where
  | val (v : Value)
  | junk
  | ptr (id vl row off : Nat)
  | rptr (c : Nat) (cells : List PV)
  | slice (c sz : Nat) (rows : List (List PV))
  | msl (id len sz : Nat)
  | func (f : FuncId) (caps : List PV)
  | iface (t : TypeId) (p : PV)
  | agg (cells : List PV)
  | tuple (vs : List PV)
  | map (id : Nat)
  deriving Inhabited

/-- Abstract memory: boxes (rows of cells), maps, the next free number, the colour of what is frozen. -/
structure AS where
  box : Nat → Option (List (List PV))
  mp : Nat → Option (List (Value × PV))
  next : Nat
  color : Nat

structure Gh where
  view : Nat → Nat → Option (Nat × Nat × Nat)
  mview : Nat → Option Nat
  ro : Nat → Option (Nat × Obj)
  next : Nat
  w0 : World

def Gh.cell (G : Gh) (c b o : Nat) : Option Value :=
  match G.ro b with
  | some (c', .cells vs _ _) => if c' = c then vs[o]? else none
  | _ => none

inductive Rep (G : Gh) : PV → Value → Prop
  | val (v : Value) : Rep G (.val v) v
  | junk (v : Value) : Rep G .junk v
  | ptr {id vl row off b sz cap : Nat} : G.view id vl = some (b, sz, cap) → Rep G (.ptr id vl row off) (.pointer (some ⟨b, row * sz + off, none⟩))
  | rptr {c b o : Nat} {cells : List PV} (vs : Nat → Value) : (∀ (j : Nat) (p : PV), cells[j]? = some p → G.cell c b (o + j) = some (vs j)) →
      (∀ (j : Nat) (p : PV), cells[j]? = some p → (vs j).oneCell' = true) → (∀ (j : Nat) (p : PV), cells[j]? = some p → Rep G p (vs j)) → Rep G (.rptr c cells) (.pointer (some ⟨b, o, none⟩))
  | slice {c sz b o cap : Nat} {rows : List (List PV)} (vs : Nat → Nat → Value) : rows.length ≤ cap → (∀ (i : Nat) (r : List PV), rows[i]? = some r → r.length = sz) →
      (∀ (i : Nat) (r : List PV) (j : Nat) (p : PV), rows[i]? = some r → r[j]? = some p → G.cell c b (o + i * sz + j) = some (vs i j)) →
      (∀ (i : Nat) (r : List PV) (j : Nat) (p : PV), rows[i]? = some r → r[j]? = some p → (vs i j).oneCell' = true) →
      (∀ (i : Nat) (r : List PV) (j : Nat) (p : PV), rows[i]? = some r → r[j]? = some p → Rep G p (vs i j)) →
      Rep G (.slice c sz rows) (.slice (some ⟨b, o, none⟩) rows.length cap)
  | nilSlice {c sz : Nat} : Rep G (.slice c sz []) (.slice none 0 0)
  | emptySlice {c sz cap : Nat} {a : Addr} : Rep G (.slice c sz []) (.slice (some a) 0 cap)
  | msl {id len sz b cap : Nat} : G.view id len = some (b, sz, cap) → Rep G (.msl id len sz) (.slice (some ⟨b, 0, none⟩) len cap)
  | func {f : FuncId} {caps : List PV} {vs : Array Value} : caps.length = vs.size → (∀ (j : Nat) (p : PV) (v : Value), caps[j]? = some p → vs[j]? = some v → Rep G p v) →
      Rep G (.func f caps) (.func (.func f) #[] vs)
  | iface {t : TypeId} {p : PV} {v : Value} : Rep G p v → Rep G (.iface t p) (.iface t v)
  | agg {cells : List PV} {vs : Array Value} : cells.length = vs.size → (∀ (j : Nat) (v : Value), vs[j]? = some v → v.oneCell' = true) → (∀ (j : Nat) (p : PV) (v : Value), cells[j]? = some p → vs[j]? = some v → Rep G p v) → Rep G (.agg cells) (.agg vs)
  | tuple {cells : List PV} {vs : Array Value} : cells.length = vs.size → (∀ (j : Nat) (p : PV) (v : Value), cells[j]? = some p → vs[j]? = some v → Rep G p v) → Rep G (.tuple cells) (.tuple vs)
  | map {id b : Nat} : G.mview id = some b → Rep G (.map id) (.map (some b))

structure Gh.le (G G' : Gh) : Prop where
  ro : ∀ b x, G.ro b = some x → G'.ro b = some x
  view : ∀ id vl x, G.view id vl = some x → G'.view id vl = some x
  mview : ∀ id x, G.mview id = some x → G'.mview id = some x
  next : G.next ≤ G'.next
  w0 : G'.w0 = G.w0

theorem Gh.le.refl (G : Gh) : G.le G := ⟨fun _ _ h => h, fun _ _ _ h => h, fun _ _ h => h, Nat.le_refl _, rfl⟩
theorem Gh.le.trans {G G' G'' : Gh} (h : G.le G') (h' : G'.le G'') : G.le G'' :=
  ⟨fun b x e => h'.ro b x (h.ro b x e), fun i l x e => h'.view i l x (h.view i l x e), fun i x e => h'.mview i x (h.mview i x e), Nat.le_trans h.next h'.next, by rw [h'.w0, h.w0]⟩

theorem Gh.cell_mono {G G' : Gh} (h : G.le G') {c b o : Nat} {v : Value} (e : G.cell c b o = some v) : G'.cell c b o = some v := by
  unfold Gh.cell at *
  cases hr : G.ro b with
  | none => rw [hr] at e; simp at e
  | some x => rw [hr] at e; rw [h.ro b x hr]; exact e

/-- What the tie of a value rests on: views and read-only cells. -/
theorem Rep.mono' {G G' : Gh} (hv : ∀ id vl x, G.view id vl = some x → G'.view id vl = some x) (hm : ∀ id x, G.mview id = some x → G'.mview id = some x)
    (hc : ∀ c b o v, G.cell c b o = some v → G'.cell c b o = some v) {p : PV} {v : Value} (r : Rep G p v) : Rep G' p v := by
  induction r with
  | val v => exact .val v
  | junk v => exact .junk v
  | ptr e => exact .ptr (hv _ _ _ e)
  | rptr vs h1 h2 _ ih => exact .rptr vs (fun j p hp => hc _ _ _ _ (h1 j p hp)) h2 ih
  | slice vs h0 h1 h2 h3 _ ih => exact .slice vs h0 h1 (fun i r j p hr hp => hc _ _ _ _ (h2 i r j p hr hp)) h3 ih
  | nilSlice => exact .nilSlice
  | emptySlice => exact .emptySlice
  | msl e => exact .msl (hv _ _ _ e)
  | func h _ ih => exact .func h ih
  | iface _ ih => exact .iface ih
  | agg h h1 _ ih => exact .agg h h1 ih
  | tuple h _ ih => exact .tuple h ih
  | map e => exact .map (hm _ _ e)

theorem Rep.mono {G G' : Gh} (h : G.le G') {p : PV} {v : Value} (r : Rep G p v) : Rep G' p v :=
  r.mono' h.view h.mview (fun _ _ _ _ e => Gh.cell_mono h e)

/-- All numbers of boxes in a value are below n. -/
inductive Below (n : Nat) : PV → Prop
  | val (v : Value) : Below n (.val v)
  | junk : Below n .junk
  | ptr {id vl row off : Nat} : id < n → Below n (.ptr id vl row off)
  | rptr {c : Nat} {cells : List PV} : (∀ p ∈ cells, Below n p) → Below n (.rptr c cells)
  | slice {c sz : Nat} {rows : List (List PV)} : (∀ r ∈ rows, ∀ p ∈ r, Below n p) → Below n (.slice c sz rows)
  | msl {id len sz : Nat} : id < n → Below n (.msl id len sz)
  | func {f : FuncId} {caps : List PV} : (∀ p ∈ caps, Below n p) → Below n (.func f caps)
  | iface {t : TypeId} {p : PV} : Below n p → Below n (.iface t p)
  | agg {cells : List PV} : (∀ p ∈ cells, Below n p) → Below n (.agg cells)
  | tuple {cells : List PV} : (∀ p ∈ cells, Below n p) → Below n (.tuple cells)
  | map {id : Nat} : id < n → Below n (.map id)

section
variable {n : Nat}
@[simp] theorem below_val {v : Value} : Below n (.val v) := .val v
@[simp] theorem below_junk : Below n .junk := .junk
@[simp] theorem below_ptr {id vl row off : Nat} : Below n (.ptr id vl row off) ↔ id < n := ⟨fun h => by cases h; assumption, .ptr⟩
@[simp] theorem below_rptr {c : Nat} {cells : List PV} : Below n (.rptr c cells) ↔ ∀ p ∈ cells, Below n p := ⟨fun h => by cases h; assumption, .rptr⟩
@[simp] theorem below_slice {c sz : Nat} {rows : List (List PV)} : Below n (.slice c sz rows) ↔ ∀ r ∈ rows, ∀ p ∈ r, Below n p := ⟨fun h => by cases h; assumption, .slice⟩
@[simp] theorem below_msl {id len sz : Nat} : Below n (.msl id len sz) ↔ id < n := ⟨fun h => by cases h; assumption, .msl⟩
@[simp] theorem below_func {f : FuncId} {caps : List PV} : Below n (.func f caps) ↔ ∀ p ∈ caps, Below n p := ⟨fun h => by cases h; assumption, .func⟩
@[simp] theorem below_iface {t : TypeId} {p : PV} : Below n (.iface t p) ↔ Below n p := ⟨fun h => by cases h; assumption, .iface⟩
@[simp] theorem below_agg {cells : List PV} : Below n (.agg cells) ↔ ∀ p ∈ cells, Below n p := ⟨fun h => by cases h; assumption, .agg⟩
@[simp] theorem below_tuple {cells : List PV} : Below n (.tuple cells) ↔ ∀ p ∈ cells, Below n p := ⟨fun h => by cases h; assumption, .tuple⟩
@[simp] theorem below_map {id : Nat} : Below n (.map id) ↔ id < n := ⟨fun h => by cases h; assumption, .map⟩
end

theorem Below.mono {n m : Nat} (h : n ≤ m) {p : PV} (b : Below n p) : Below m p := by
  induction b with
  | val v => simp
  | junk => simp
  | ptr e => simp; omega
  | rptr _ ih => exact .rptr ih
  | slice _ ih => exact .slice ih
  | msl e => simp; omega
  | func _ ih => exact .func ih
  | iface _ ih => exact .iface ih
  | agg _ ih => exact .agg ih
  | tuple _ ih => exact .tuple ih
  | map e => simp; omega

/-- The ghost with only the views of numbers below n. -/
def Gh.cutAt (G : Gh) (n : Nat) : Gh :=
  { G with view := fun id vl => if id < n then G.view id vl else none, mview := fun id => if id < n then G.mview id else none, next := n }

theorem Rep.cutAt {G : Gh} {n : Nat} {p : PV} {v : Value} (r : Rep G p v) : Below n p → Rep (G.cutAt n) p v := by
  induction r with
  | val v => intro _; exact .val v
  | junk v => intro _; exact .junk v
  | ptr e => intro hb; exact .ptr (by simpa [Gh.cutAt, below_ptr.1 hb] using e)
  | rptr vs h1 h2 _ ih => intro hb; exact .rptr vs h1 h2 (fun j p hp => ih j p hp (below_rptr.1 hb p (List.mem_of_getElem? hp)))
  | slice vs h0 h1 h2 h3 _ ih => intro hb; exact .slice vs h0 h1 h2 h3 (fun i r j p hr hp => ih i r j p hr hp (below_slice.1 hb r (List.mem_of_getElem? hr) p (List.mem_of_getElem? hp)))
  | nilSlice => intro _; exact .nilSlice
  | emptySlice => intro _; exact .emptySlice
  | msl e => intro hb; exact .msl (by simpa [Gh.cutAt, below_msl.1 hb] using e)
  | func h _ ih => intro hb; exact .func h (fun j p v hp hv => ih j p v hp hv (below_func.1 hb p (List.mem_of_getElem? hp)))
  | iface _ ih => intro hb; exact .iface (ih (below_iface.1 hb))
  | agg h h1 _ ih => intro hb; exact .agg h h1 (fun j p v hp hv => ih j p v hp hv (below_agg.1 hb p (List.mem_of_getElem? hp)))
  | tuple h _ ih => intro hb; exact .tuple h (fun j p v hp hv => ih j p v hp hv (below_tuple.1 hb p (List.mem_of_getElem? hp)))
  | map e => intro hb; exact .map (by simpa [Gh.cutAt, below_map.1 hb] using e)

/-- A box as the world holds it. -/
def BoxOk (G : Gh) (w : World) (id : Nat) (rows : List (List PV)) : Prop :=
  ∃ (b sz cap : Nat) (vs : Array Value) (elem : TypeId) (fz : Nat × Nat), G.view id rows.length = some (b, sz, cap) ∧ w.heap[b]? = some (.cells vs elem fz) ∧
    (∀ o, o < vs.size → ¬ (fz.1 ≤ o ∧ o < fz.2)) ∧ cap * sz ≤ vs.size ∧ rows.length ≤ cap ∧ (∀ r ∈ rows, r.length = sz) ∧
    (∀ (i : Nat) (r : List PV) (j : Nat) (p : PV), rows[i]? = some r → r[j]? = some p → ∃ v, vs[i * sz + j]? = some v ∧ Rep G p v) ∧ (∀ (o : Nat) (v : Value), vs[o]? = some v → v.oneCell' = true) ∧ G.ro b = none

def MapOk (G : Gh) (w : World) (id : Nat) (es : List (Value × PV)) : Prop :=
  ∃ (b : Nat) (ents : Array MapEntry) (clock : Nat), G.mview id = some b ∧ w.heap[b]? = some (.map ents clock) ∧ ents.size = es.length ∧
    (∀ (i : Nat) (e : Value × PV) (m : MapEntry), es[i]? = some e → ents[i]? = some m → m.key = e.1 ∧ Rep G e.2 m.val) ∧ G.ro b = none

structure Rel (G : Gh) (H : AS) (w : World) : Prop where
  next : G.next = H.next
  ro : ∀ b c o, G.ro b = some (c, o) → w.heap[b]? = some o
  box : ∀ id rows, H.box id = some rows → BoxOk G w id rows
  inj : ∀ i j ri rj b s c s' c', H.box i = some ri → H.box j = some rj → G.view i ri.length = some (b, s, c) → G.view j rj.length = some (b, s', c') → i = j
  mp : ∀ id es, H.mp id = some es → MapOk G w id es
  minj : ∀ i j ri rj b, H.mp i = some ri → H.mp j = some rj → G.mview i = some b → G.mview j = some b → i = j
  vmax : ∀ id rows vl x, H.box id = some rows → G.view id vl = some x → vl ≤ rows.length
  dom : ∀ id vl x, G.view id vl = some x → id < G.next
  mdom : ∀ id x, G.mview id = some x → id < G.next
  os : w.os = G.w0.os
  out : w.output = G.w0.output
  tape : w.tape = G.w0.tape

theorem Rep.isBelow {G : Gh} {n : Nat} (hd : ∀ id vl x, G.view id vl = some x → id < n) (hm : ∀ id x, G.mview id = some x → id < n) {p : PV} {v : Value} (r : Rep G p v) : Below n p := by
  have key : ∀ (l : List PV) (vs : Array Value), l.length = vs.size → (∀ (j : Nat) (p : PV) (v : Value), l[j]? = some p → vs[j]? = some v → Below n p) → ∀ p ∈ l, Below n p := by
    intro l vs hl h p hp
    obtain ⟨j, hj⟩ := List.getElem?_of_mem hp
    have hlt : j < vs.size := by rw [← hl]; exact (List.getElem?_eq_some_iff.1 hj).1
    exact h j p vs[j] hj (by simp [hlt])
  induction r with
  | val v => simp
  | junk v => simp
  | ptr e => simpa using hd _ _ _ e
  | rptr vs _ _ _ ih => exact .rptr fun p hp => by obtain ⟨j, hj⟩ := List.getElem?_of_mem hp; exact ih j p hj
  | slice vs _ _ _ _ _ ih => exact .slice fun r hr p hp => by obtain ⟨i, hi⟩ := List.getElem?_of_mem hr; obtain ⟨j, hj⟩ := List.getElem?_of_mem hp; exact ih i r j p hi hj
  | nilSlice => simp
  | emptySlice => simp
  | msl e => simpa using hd _ _ _ e
  | func h _ ih => exact .func (key _ _ h ih)
  | iface _ ih => exact .iface ih
  | agg h _ _ ih => exact .agg (key _ _ h ih)
  | tuple h _ ih => exact .tuple (key _ _ h ih)
  | map e => simpa using hm _ _ e

/-- Abstract memory whose contents speak of what was there alone. -/
structure WF (H : AS) : Prop where
  box : ∀ id rows, H.box id = some rows → id < H.next ∧ ∀ r ∈ rows, ∀ p ∈ r, Below H.next p
  mp : ∀ id es, H.mp id = some es → id < H.next ∧ ∀ e ∈ es, Below H.next e.2

theorem Rel.wf {G : Gh} {H : AS} {w : World} (h : Rel G H w) : WF H := by
  constructor
  · intro id rows hb
    obtain ⟨b, sz, cap, vs, elem, fz, hv, -, -, -, -, -, hc, -⟩ := h.box id rows hb
    refine ⟨h.next ▸ h.dom _ _ _ hv, fun r hr p hp => ?_⟩
    obtain ⟨i, hi⟩ := List.getElem?_of_mem hr
    obtain ⟨j, hj⟩ := List.getElem?_of_mem hp
    obtain ⟨v, -, hrep⟩ := hc i r j p hi hj
    exact hrep.isBelow (fun i l x e => h.next ▸ h.dom i l x e) (fun i x e => h.next ▸ h.mdom i x e)
  · intro id es hb
    obtain ⟨b, ents, clock, hv, -, hs, hc, -⟩ := h.mp id es hb
    refine ⟨h.next ▸ h.mdom _ _ hv, fun e he => ?_⟩
    obtain ⟨i, hi⟩ := List.getElem?_of_mem he
    have hlt : i < ents.size := by rw [hs]; exact (List.getElem?_eq_some_iff.1 hi).1
    exact (hc i e ents[i] hi (by simp [hlt])).2.isBelow (fun i l x e => h.next ▸ h.dom i l x e) (fun i x e => h.next ▸ h.mdom i x e)

theorem Rel.drew {G : Gh} {H : AS} {w : World} (h : Rel G H w) (n : Nat) : Rel G H { w with drawn := n } :=
  ⟨h.next, h.ro, h.box, h.inj, h.mp, h.minj, h.vmax, h.dom, h.mdom, h.os, h.out, h.tape⟩

/-- Forgetting: fewer boxes, a smaller next number, if what is left speaks of what is left. -/
theorem Rel.forget {G G' : Gh} {H' : AS} {w' : World} (h : Rel G' H' w') (hle : G.le G') {H1 : AS} (hn : G.next ≤ H1.next)
    (hb : ∀ id rows, H1.box id = some rows → H'.box id = some rows) (hm : ∀ id es, H1.mp id = some es → H'.mp id = some es) (hwf : WF H1)
    (hd : ∀ id vl x, G.view id vl = some x → id < G.next) (hmd : ∀ id x, G.mview id = some x → id < G.next) :
    G.le (G'.cutAt H1.next) ∧ Rel (G'.cutAt H1.next) H1 w' := by
  have hvw : ∀ id vl, id < H1.next → (G'.cutAt H1.next).view id vl = G'.view id vl := fun id vl hi => by simp [Gh.cutAt, hi]
  have hmv : ∀ id, id < H1.next → (G'.cutAt H1.next).mview id = G'.mview id := fun id hi => by simp [Gh.cutAt, hi]
  constructor
  · refine ⟨hle.ro, fun id vl x e => ?_, fun id x e => ?_, hn, hle.w0⟩
    · rw [hvw id vl (Nat.lt_of_lt_of_le (hd _ _ _ e) hn)]; exact hle.view _ _ _ e
    · rw [hmv id (Nat.lt_of_lt_of_le (hmd _ _ e) hn)]; exact hle.mview _ _ e
  · refine ⟨rfl, h.ro, fun id rows hr => ?_, fun i j ri rj b s c s' c' hi hj e1 e2 => ?_, fun id es he => ?_, fun i j ri rj b hi hj e1 e2 => ?_, fun id rows vl x hr e => ?_, fun id vl x e => ?_, fun id x e => ?_, h.os, h.out, h.tape⟩
    · obtain ⟨hlt, hbel⟩ := hwf.box id rows hr
      obtain ⟨b, sz, cap, vs, elem, fz, hv, h1, h2, h3, h4, h5, hc, h6⟩ := h.box id rows (hb id rows hr)
      refine ⟨b, sz, cap, vs, elem, fz, by rw [hvw _ _ hlt]; exact hv, h1, h2, h3, h4, h5, fun i r j p hi hj => ?_, h6⟩
      obtain ⟨v, e, hrep⟩ := hc i r j p hi hj
      exact ⟨v, e, hrep.cutAt (hbel r (List.mem_of_getElem? hi) p (List.mem_of_getElem? hj))⟩
    · rw [hvw _ _ (hwf.box i ri hi).1] at e1
      rw [hvw _ _ (hwf.box j rj hj).1] at e2
      exact h.inj i j ri rj b s c s' c' (hb _ _ hi) (hb _ _ hj) e1 e2
    · obtain ⟨hlt, hbel⟩ := hwf.mp id es he
      obtain ⟨b, ents, clock, hv, h1, hs, hc, h6⟩ := h.mp id es (hm id es he)
      exact ⟨b, ents, clock, by rw [hmv _ hlt]; exact hv, h1, hs, fun i e m hi hj => ⟨(hc i e m hi hj).1, (hc i e m hi hj).2.cutAt (hbel e (List.mem_of_getElem? hi))⟩, h6⟩
    · rw [hmv _ (hwf.mp i ri hi).1] at e1
      rw [hmv _ (hwf.mp j rj hj).1] at e2
      exact h.minj i j ri rj b (hm _ _ hi) (hm _ _ hj) e1 e2
    · rw [hvw _ _ (hwf.box id rows hr).1] at e
      exact h.vmax id rows vl x (hb _ _ hr) e
    · by_cases hi : id < H1.next
      · exact hi
      · simp [Gh.cutAt, hi] at e
    · by_cases hi : id < H1.next
      · exact hi
      · simp [Gh.cutAt, hi] at e

end Go.Abs
