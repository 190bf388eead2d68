/- Texts of ours, merged: the abstract layer, the walks over the loaded functions, the plain laws. -/
import Derived.Calls
import Derived.Lib.ItoaNum
import Derived.Orders
import Derived.KernelRfl
import Derived.Laws.IdiomCopy
import Derived.ChangeKeysEq
import Derived.Laws.Cells
import Derived.Laws.StructEq
import Derived.Stop.BytesEq
import Derived.Laws.MakeOwn
import Derived.Laws.BytesArg
import Derived.Laws.IdiomStrings
import Derived.MapKept
namespace Go.Abs
set_option autoImplicit false
set_option linter.all false
set_option maxRecDepth 100000
set_option maxHeartbeats 40000000
def intCell (W : World) (b : Nat) : Prop := ∃ m cs t fz, W.heap[b]? = some (.cells cs t fz) ∧ cs[0]? = some (.int .i64 m)
def ambient (W : World) : Prop := (∃ t fz, W.heap[0]? = some (.cells (Lib.pow10Tab.map fun z => Value.int .u64 z).toArray t fz)) ∧ intCell W 1
/-- Abstract values. 'val': that very value. 'junk': whatever stands there. -/
inductive PV where
  | val (v : Value)
  | junk
  | ptr (id vl row off : Nat)
  | rptr (c : Nat) (cells : List PV)
  | slice (c sz : Nat) (rows : List (List PV))
  | msl (id len sz : Nat)
  | func (f : FuncId) (caps : List PV)
  | bound (f : FuncId) (first : List PV)
  | iface (t : TypeId) (p : PV)
  | agg (cells : List PV)
  | tuple (vs : List PV)
  | map (id : Nat)
  deriving Inhabited
/-- Abstract memory: boxes (rows of cells), maps, the next free number, the colour of what is frozen. -/
structure AS where
  box : Nat → Option (List (List PV))
  mp : Nat → Option (List (Value × PV))
  next : Nat
  color : Nat
structure Gh where
  view : Nat → Nat → Option (Nat × Nat × Nat)
  mview : Nat → Option Nat
  ro : Nat → Option (Nat × Obj)
  next : Nat
  w0 : World
  ex : Nat → Option (Nat × Nat × Nat)
def Gh.cell (G : Gh) (c b o : Nat) : Option Value :=
  match G.ro b with
  | some (c', .cells vs _ _) => if c' = c then vs[o]? else none
  | _ => none
inductive Rep (G : Gh) : PV → Value → Prop
  | val (v : Value) : Rep G (.val v) v
  | junk (v : Value) : Rep G .junk v
  | ptr {id vl row off b sz cap : Nat} : G.view id vl = some (b, sz, cap) → Rep G (.ptr id vl row off) (.pointer (some ⟨b, row * sz + off, none⟩))
  | rptr {c b o : Nat} {cells : List PV} (vs : Nat → Value) : (∀ (j : Nat) (p : PV), cells[j]? = some p → G.cell c b (o + j) = some (vs j)) →
      (∀ (j : Nat) (p : PV), cells[j]? = some p → (vs j).oneCell' = true) → (∀ (j : Nat) (p : PV), cells[j]? = some p → Rep G p (vs j)) → Rep G (.rptr c cells) (.pointer (some ⟨b, o, none⟩))
  | slice {c sz b o cap : Nat} {rows : List (List PV)} (vs : Nat → Nat → Value) : (2 ≤ c → o = 0 ∧ G.ex b = some (rows.length, sz, cap)) → rows.length ≤ cap → (∀ (i : Nat) (r : List PV), rows[i]? = some r → r.length = sz) →
      (∀ (i : Nat) (r : List PV) (j : Nat) (p : PV), rows[i]? = some r → r[j]? = some p → G.cell c b (o + i * sz + j) = some (vs i j)) →
      (∀ (i : Nat) (r : List PV) (j : Nat) (p : PV), rows[i]? = some r → r[j]? = some p → (vs i j).oneCell' = true) →
      (∀ (i : Nat) (r : List PV) (j : Nat) (p : PV), rows[i]? = some r → r[j]? = some p → Rep G p (vs i j)) →
      Rep G (.slice c sz rows) (.slice (some ⟨b, o, none⟩) rows.length cap)
  | nilSlice {c sz : Nat} : Rep G (.slice c sz []) (.slice none 0 0)
  | emptySlice {c sz cap : Nat} {a : Addr} : Rep G (.slice c sz []) (.slice (some a) 0 cap)
  | msl {id len sz b cap : Nat} : G.view id len = some (b, sz, cap) → Rep G (.msl id len sz) (.slice (some ⟨b, 0, none⟩) len cap)
  | func {f : FuncId} {caps : List PV} {vs : Array Value} : caps.length = vs.size → (∀ (j : Nat) (p : PV) (v : Value), caps[j]? = some p → vs[j]? = some v → Rep G p v) →
      Rep G (.func f caps) (.func (.func f) #[] vs)
  | bound {f : FuncId} {caps : List PV} {vs : Array Value} : caps.length = vs.size → (∀ (j : Nat) (p : PV) (v : Value), caps[j]? = some p → vs[j]? = some v → Rep G p v) →
      Rep G (.bound f caps) (.func (.func f) vs #[])
  | iface {t : TypeId} {p : PV} {v : Value} : Rep G p v → Rep G (.iface t p) (.iface t v)
  | agg {cells : List PV} {vs : Array Value} : cells.length = vs.size → (∀ (j : Nat) (v : Value), vs[j]? = some v → v.oneCell' = true) → (∀ (j : Nat) (p : PV) (v : Value), cells[j]? = some p → vs[j]? = some v → Rep G p v) → Rep G (.agg cells) (.agg vs)
  | tuple {cells : List PV} {vs : Array Value} : cells.length = vs.size → (∀ (j : Nat) (p : PV) (v : Value), cells[j]? = some p → vs[j]? = some v → Rep G p v) → Rep G (.tuple cells) (.tuple vs)
  | map {id b : Nat} : G.mview id = some b → Rep G (.map id) (.map (some b))
structure Gh.le (G G' : Gh) : Prop where
  ro : ∀ b x, G.ro b = some x → G'.ro b = some x
  view : ∀ id vl x, G.view id vl = some x → G'.view id vl = some x
  mview : ∀ id x, G.mview id = some x → G'.mview id = some x
  next : G.next ≤ G'.next
  w0 : G'.w0 = G.w0
  ex : ∀ b x, G.ex b = some x → G'.ex b = some x
  exn : ∀ b y, G.ro b = some y → G'.ex b = G.ex b
theorem Gh.le.refl (G : Gh) : G.le G := ⟨fun _ _ h => h, fun _ _ _ h => h, fun _ _ h => h, Nat.le_refl _, rfl, fun _ _ h => h, fun _ _ _ => rfl⟩
theorem Gh.le.trans {G G' G'' : Gh} (h : G.le G') (h' : G'.le G'') : G.le G'' :=
  ⟨fun b x e => h'.ro b x (h.ro b x e), fun i l x e => h'.view i l x (h.view i l x e), fun i x e => h'.mview i x (h.mview i x e), Nat.le_trans h.next h'.next, by rw [h'.w0, h.w0], fun b x e => h'.ex b x (h.ex b x e), fun b y e => (h'.exn b y (h.ro b y e)).trans (h.exn b y e)⟩
theorem Gh.cell_mono {G G' : Gh} (h : G.le G') {c b o : Nat} {v : Value} (e : G.cell c b o = some v) : G'.cell c b o = some v := by
  unfold Gh.cell at *
  cases hr : G.ro b with
  | none => rw [hr] at e; simp at e
  | some x => rw [hr] at e; rw [h.ro b x hr]; exact e
/-- What the tie of a value rests on: views and read-only cells. -/
theorem Rep.mono' {G G' : Gh} (hv : ∀ id vl x, G.view id vl = some x → G'.view id vl = some x) (hm : ∀ id x, G.mview id = some x → G'.mview id = some x)
    (hc : ∀ c b o v, G.cell c b o = some v → G'.cell c b o = some v) (hex : ∀ b x, G.ex b = some x → G'.ex b = some x) {p : PV} {v : Value} (r : Rep G p v) : Rep G' p v := by
  induction r with
  | val v => exact .val v
  | junk v => exact .junk v
  | ptr e => exact .ptr (hv _ _ _ e)
  | rptr vs h1 h2 _ ih => exact .rptr vs (fun j p hp => hc _ _ _ _ (h1 j p hp)) h2 ih
  | slice vs hx h0 h1 h2 h3 _ ih => exact .slice vs (fun h => ⟨(hx h).1, hex _ _ (hx h).2⟩) h0 h1 (fun i r j p hr hp => hc _ _ _ _ (h2 i r j p hr hp)) h3 ih
  | nilSlice => exact .nilSlice
  | emptySlice => exact .emptySlice
  | msl e => exact .msl (hv _ _ _ e)
  | func h _ ih => exact .func h ih
  | bound h _ ih => exact .bound h ih
  | iface _ ih => exact .iface ih
  | agg h h1 _ ih => exact .agg h h1 ih
  | tuple h _ ih => exact .tuple h ih
  | map e => exact .map (hm _ _ e)
theorem Rep.mono {G G' : Gh} (h : G.le G') {p : PV} {v : Value} (r : Rep G p v) : Rep G' p v :=
  r.mono' h.view h.mview (fun _ _ _ _ e => Gh.cell_mono h e) h.ex
/-- All numbers of boxes in a value are below n. -/
inductive Below (n : Nat) : PV → Prop
  | val (v : Value) : Below n (.val v)
  | junk : Below n .junk
  | ptr {id vl row off : Nat} : id < n → Below n (.ptr id vl row off)
  | rptr {c : Nat} {cells : List PV} : (∀ p ∈ cells, Below n p) → Below n (.rptr c cells)
  | slice {c sz : Nat} {rows : List (List PV)} : (∀ r ∈ rows, ∀ p ∈ r, Below n p) → Below n (.slice c sz rows)
  | msl {id len sz : Nat} : id < n → Below n (.msl id len sz)
  | func {f : FuncId} {caps : List PV} : (∀ p ∈ caps, Below n p) → Below n (.func f caps)
  | bound {f : FuncId} {caps : List PV} : (∀ p ∈ caps, Below n p) → Below n (.bound f caps)
  | iface {t : TypeId} {p : PV} : Below n p → Below n (.iface t p)
  | agg {cells : List PV} : (∀ p ∈ cells, Below n p) → Below n (.agg cells)
  | tuple {cells : List PV} : (∀ p ∈ cells, Below n p) → Below n (.tuple cells)
  | map {id : Nat} : id < n → Below n (.map id)
section
variable {n : Nat}
@[simp] theorem below_val {v : Value} : Below n (.val v) := .val v
@[simp] theorem below_junk : Below n .junk := .junk
@[simp] theorem below_ptr {id vl row off : Nat} : Below n (.ptr id vl row off) ↔ id < n := ⟨fun h => by cases h; assumption, .ptr⟩
@[simp] theorem below_rptr {c : Nat} {cells : List PV} : Below n (.rptr c cells) ↔ ∀ p ∈ cells, Below n p := ⟨fun h => by cases h; assumption, .rptr⟩
@[simp] theorem below_slice {c sz : Nat} {rows : List (List PV)} : Below n (.slice c sz rows) ↔ ∀ r ∈ rows, ∀ p ∈ r, Below n p := ⟨fun h => by cases h; assumption, .slice⟩
@[simp] theorem below_msl {id len sz : Nat} : Below n (.msl id len sz) ↔ id < n := ⟨fun h => by cases h; assumption, .msl⟩
@[simp] theorem below_func {f : FuncId} {caps : List PV} : Below n (.func f caps) ↔ ∀ p ∈ caps, Below n p := ⟨fun h => by cases h; assumption, .func⟩
@[simp] theorem below_bound {f : FuncId} {caps : List PV} : Below n (.bound f caps) ↔ ∀ p ∈ caps, Below n p := ⟨fun h => by cases h; assumption, .bound⟩
@[simp] theorem below_iface {t : TypeId} {p : PV} : Below n (.iface t p) ↔ Below n p := ⟨fun h => by cases h; assumption, .iface⟩
@[simp] theorem below_agg {cells : List PV} : Below n (.agg cells) ↔ ∀ p ∈ cells, Below n p := ⟨fun h => by cases h; assumption, .agg⟩
@[simp] theorem below_tuple {cells : List PV} : Below n (.tuple cells) ↔ ∀ p ∈ cells, Below n p := ⟨fun h => by cases h; assumption, .tuple⟩
@[simp] theorem below_map {id : Nat} : Below n (.map id) ↔ id < n := ⟨fun h => by cases h; assumption, .map⟩
end
theorem Below.mono {n m : Nat} (h : n ≤ m) {p : PV} (b : Below n p) : Below m p := by
  induction b with
  | val v => simp
  | junk => simp
  | ptr e => simp; omega
  | rptr _ ih => exact .rptr ih
  | slice _ ih => exact .slice ih
  | msl e => simp; omega
  | func _ ih => exact .func ih
  | bound _ ih => exact .bound ih
  | iface _ ih => exact .iface ih
  | agg _ ih => exact .agg ih
  | tuple _ ih => exact .tuple ih
  | map e => simp; omega
/-- The ghost with only the views of numbers below n. -/
def Gh.cutAt (G : Gh) (n : Nat) : Gh :=
  { G with view := fun id vl => if id < n then G.view id vl else none, mview := fun id => if id < n then G.mview id else none, next := n }
theorem Rep.cutAt {G : Gh} {n : Nat} {p : PV} {v : Value} (r : Rep G p v) : Below n p → Rep (G.cutAt n) p v := by
  induction r with
  | val v => intro _; exact .val v
  | junk v => intro _; exact .junk v
  | ptr e => intro hb; exact .ptr (by simpa [Gh.cutAt, below_ptr.1 hb] using e)
  | rptr vs h1 h2 _ ih => intro hb; exact .rptr vs h1 h2 (fun j p hp => ih j p hp (below_rptr.1 hb p (List.mem_of_getElem? hp)))
  | slice vs hx h0 h1 h2 h3 _ ih => intro hb; exact .slice vs hx h0 h1 h2 h3 (fun i r j p hr hp => ih i r j p hr hp (below_slice.1 hb r (List.mem_of_getElem? hr) p (List.mem_of_getElem? hp)))
  | nilSlice => intro _; exact .nilSlice
  | emptySlice => intro _; exact .emptySlice
  | msl e => intro hb; exact .msl (by simpa [Gh.cutAt, below_msl.1 hb] using e)
  | func h _ ih => intro hb; exact .func h (fun j p v hp hv => ih j p v hp hv (below_func.1 hb p (List.mem_of_getElem? hp)))
  | bound h _ ih => intro hb; exact .bound h (fun j p v hp hv => ih j p v hp hv (below_bound.1 hb p (List.mem_of_getElem? hp)))
  | iface _ ih => intro hb; exact .iface (ih (below_iface.1 hb))
  | agg h h1 _ ih => intro hb; exact .agg h h1 (fun j p v hp hv => ih j p v hp hv (below_agg.1 hb p (List.mem_of_getElem? hp)))
  | tuple h _ ih => intro hb; exact .tuple h (fun j p v hp hv => ih j p v hp hv (below_tuple.1 hb p (List.mem_of_getElem? hp)))
  | map e => intro hb; exact .map (by simpa [Gh.cutAt, below_map.1 hb] using e)
/-- What is frozen of a box lies behind its end. -/
def FzOk (n : Nat) (fz : Nat × Nat) : Prop := fz.1 = fz.2 ∨ n ≤ fz.1
theorem FzOk.not {n : Nat} {fz : Nat × Nat} (h : FzOk n fz) (o : Nat) (ho : o < n) : ¬ (fz.1 ≤ o ∧ o < fz.2) := by rcases h with h | h <;> omega
/-- A box as the world holds it. -/
def BoxOk (G : Gh) (w : World) (id : Nat) (rows : List (List PV)) : Prop :=
  ∃ (b sz cap : Nat) (vs : Array Value) (elem : TypeId) (fz : Nat × Nat), G.view id rows.length = some (b, sz, cap) ∧ w.heap[b]? = some (.cells vs elem fz) ∧
    FzOk vs.size fz ∧ cap * sz ≤ vs.size ∧ rows.length ≤ cap ∧ (∀ r ∈ rows, r.length = sz) ∧
    (∀ (i : Nat) (r : List PV) (j : Nat) (p : PV), rows[i]? = some r → r[j]? = some p → ∃ v, vs[i * sz + j]? = some v ∧ Rep G p v) ∧ (∀ (o : Nat) (v : Value), vs[o]? = some v → v.oneCell' = true) ∧ G.ro b = none
def MapOk (G : Gh) (w : World) (id : Nat) (es : List (Value × PV)) : Prop :=
  ∃ (b : Nat) (ents : Array MapEntry) (clock : Nat), G.mview id = some b ∧ w.heap[b]? = some (.map ents clock) ∧ ents.size = es.length ∧
    (∀ (i : Nat) (e : Value × PV) (m : MapEntry), es[i]? = some e → ents[i]? = some m → m.key = e.1 ∧ Rep G e.2 m.val) ∧ G.ro b = none
/-- What was frozen exactly: whole blocks, and their lists. -/
structure Gh.ExOk (G : Gh) : Prop where
  all : ∀ b c x, G.ro b = some (c, x) → 2 ≤ c → ∃ len sz cap vs el fz, G.ex b = some (len, sz, cap) ∧ x = .cells vs el fz ∧ FzOk vs.size fz ∧ cap * sz ≤ vs.size ∧ len ≤ cap ∧ ∀ (o : Nat) (v : Value), vs[o]? = some v → v.oneCell' = true
  ro : ∀ b x, G.ex b = some x → ∃ y, G.ro b = some y
/-- What holds of the world at the beginning, and that nothing of it is written. -/
def Gh.Base (G : Gh) : Prop := ambient G.w0 ∧ ∀ b o, G.w0.heap[b]? = some o → ∃ c, G.ro b = some (c, o)
theorem Gh.Base.mono {G G' : Gh} (h : G.Base) (hle : G.le G') : G'.Base :=
  ⟨by rw [hle.w0]; exact h.1, fun b o e => by rw [hle.w0] at e; obtain ⟨c, hc⟩ := h.2 b o e; exact ⟨c, hle.ro _ _ hc⟩⟩
structure Rel (G : Gh) (H : AS) (w : World) : Prop where
  next : G.next = H.next
  ro : ∀ b c o, G.ro b = some (c, o) → w.heap[b]? = some o
  box : ∀ id rows, H.box id = some rows → BoxOk G w id rows
  inj : ∀ i j ri rj b s c s' c', H.box i = some ri → H.box j = some rj → G.view i ri.length = some (b, s, c) → G.view j rj.length = some (b, s', c') → i = j
  mp : ∀ id es, H.mp id = some es → MapOk G w id es
  minj : ∀ i j ri rj b, H.mp i = some ri → H.mp j = some rj → G.mview i = some b → G.mview j = some b → i = j
  vmax : ∀ id rows vl x, H.box id = some rows → G.view id vl = some x → vl ≤ rows.length
  dom : ∀ id vl x, G.view id vl = some x → id < G.next
  mdom : ∀ id x, G.mview id = some x → id < G.next
  os : w.os = G.w0.os
  out : w.output = G.w0.output
  tape : w.tape = G.w0.tape
  base : G.Base
  exok : G.ExOk
theorem Rep.isBelow {G : Gh} {n : Nat} (hd : ∀ id vl x, G.view id vl = some x → id < n) (hm : ∀ id x, G.mview id = some x → id < n) {p : PV} {v : Value} (r : Rep G p v) : Below n p := by
  have key : ∀ (l : List PV) (vs : Array Value), l.length = vs.size → (∀ (j : Nat) (p : PV) (v : Value), l[j]? = some p → vs[j]? = some v → Below n p) → ∀ p ∈ l, Below n p := by
    intro l vs hl h p hp
    obtain ⟨j, hj⟩ := List.getElem?_of_mem hp
    have hlt : j < vs.size := by rw [← hl]; exact (List.getElem?_eq_some_iff.1 hj).1
    exact h j p vs[j] hj (by simp [hlt])
  induction r with
  | val v => simp
  | junk v => simp
  | ptr e => simpa using hd _ _ _ e
  | rptr vs _ _ _ ih => exact .rptr fun p hp => by obtain ⟨j, hj⟩ := List.getElem?_of_mem hp; exact ih j p hj
  | slice vs _ _ _ _ _ _ ih => exact .slice fun r hr p hp => by obtain ⟨i, hi⟩ := List.getElem?_of_mem hr; obtain ⟨j, hj⟩ := List.getElem?_of_mem hp; exact ih i r j p hi hj
  | nilSlice => simp
  | emptySlice => simp
  | msl e => simpa using hd _ _ _ e
  | func h _ ih => exact .func (key _ _ h ih)
  | bound h _ ih => exact .bound (key _ _ h ih)
  | iface _ ih => exact .iface ih
  | agg h _ _ ih => exact .agg (key _ _ h ih)
  | tuple h _ ih => exact .tuple (key _ _ h ih)
  | map e => simpa using hm _ _ e
/-- Abstract memory whose contents speak of what was there alone. -/
structure WF (H : AS) : Prop where
  box : ∀ id rows, H.box id = some rows → id < H.next ∧ ∀ r ∈ rows, ∀ p ∈ r, Below H.next p
  mp : ∀ id es, H.mp id = some es → id < H.next ∧ ∀ e ∈ es, Below H.next e.2
theorem Rel.wf {G : Gh} {H : AS} {w : World} (h : Rel G H w) : WF H := by
  constructor
  · intro id rows hb
    obtain ⟨b, sz, cap, vs, elem, fz, hv, -, -, -, -, -, hc, -⟩ := h.box id rows hb
    refine ⟨h.next ▸ h.dom _ _ _ hv, fun r hr p hp => ?_⟩
    obtain ⟨i, hi⟩ := List.getElem?_of_mem hr
    obtain ⟨j, hj⟩ := List.getElem?_of_mem hp
    obtain ⟨v, -, hrep⟩ := hc i r j p hi hj
    exact hrep.isBelow (fun i l x e => h.next ▸ h.dom i l x e) (fun i x e => h.next ▸ h.mdom i x e)
  · intro id es hb
    obtain ⟨b, ents, clock, hv, -, hs, hc, -⟩ := h.mp id es hb
    refine ⟨h.next ▸ h.mdom _ _ hv, fun e he => ?_⟩
    obtain ⟨i, hi⟩ := List.getElem?_of_mem he
    have hlt : i < ents.size := by rw [hs]; exact (List.getElem?_eq_some_iff.1 hi).1
    exact (hc i e ents[i] hi (by simp [hlt])).2.isBelow (fun i l x e => h.next ▸ h.dom i l x e) (fun i x e => h.next ▸ h.mdom i x e)
theorem Rel.drew {G : Gh} {H : AS} {w : World} (h : Rel G H w) (n : Nat) : Rel G H { w with drawn := n } :=
  ⟨h.next, h.ro, h.box, h.inj, h.mp, h.minj, h.vmax, h.dom, h.mdom, h.os, h.out, h.tape, h.base, h.exok⟩
/-- Forgetting: fewer boxes, a smaller next number, if what is left speaks of what is left. -/
theorem Rel.forget {G G' : Gh} {H' : AS} {w' : World} (h : Rel G' H' w') (hle : G.le G') {H1 : AS} (hn : G.next ≤ H1.next)
    (hb : ∀ id rows, H1.box id = some rows → H'.box id = some rows) (hm : ∀ id es, H1.mp id = some es → H'.mp id = some es) (hwf : WF H1)
    (hd : ∀ id vl x, G.view id vl = some x → id < G.next) (hmd : ∀ id x, G.mview id = some x → id < G.next) :
    G.le (G'.cutAt H1.next) ∧ Rel (G'.cutAt H1.next) H1 w' := by
  have hvw : ∀ id vl, id < H1.next → (G'.cutAt H1.next).view id vl = G'.view id vl := fun id vl hi => by simp [Gh.cutAt, hi]
  have hmv : ∀ id, id < H1.next → (G'.cutAt H1.next).mview id = G'.mview id := fun id hi => by simp [Gh.cutAt, hi]
  constructor
  · refine ⟨hle.ro, fun id vl x e => ?_, fun id x e => ?_, hn, hle.w0, hle.ex, hle.exn⟩
    · rw [hvw id vl (Nat.lt_of_lt_of_le (hd _ _ _ e) hn)]; exact hle.view _ _ _ e
    · rw [hmv id (Nat.lt_of_lt_of_le (hmd _ _ e) hn)]; exact hle.mview _ _ e
  · refine ⟨rfl, h.ro, fun id rows hr => ?_, fun i j ri rj b s c s' c' hi hj e1 e2 => ?_, fun id es he => ?_, fun i j ri rj b hi hj e1 e2 => ?_, fun id rows vl x hr e => ?_, fun id vl x e => ?_, fun id x e => ?_, h.os, h.out, h.tape, h.base, ⟨h.exok.all, h.exok.ro⟩⟩
    · obtain ⟨hlt, hbel⟩ := hwf.box id rows hr
      obtain ⟨b, sz, cap, vs, elem, fz, hv, h1, h2, h3, h4, h5, hc, h6⟩ := h.box id rows (hb id rows hr)
      refine ⟨b, sz, cap, vs, elem, fz, by rw [hvw _ _ hlt]; exact hv, h1, h2, h3, h4, h5, fun i r j p hi hj => ?_, h6⟩
      obtain ⟨v, e, hrep⟩ := hc i r j p hi hj
      exact ⟨v, e, hrep.cutAt (hbel r (List.mem_of_getElem? hi) p (List.mem_of_getElem? hj))⟩
    · rw [hvw _ _ (hwf.box i ri hi).1] at e1
      rw [hvw _ _ (hwf.box j rj hj).1] at e2
      exact h.inj i j ri rj b s c s' c' (hb _ _ hi) (hb _ _ hj) e1 e2
    · obtain ⟨hlt, hbel⟩ := hwf.mp id es he
      obtain ⟨b, ents, clock, hv, h1, hs, hc, h6⟩ := h.mp id es (hm id es he)
      exact ⟨b, ents, clock, by rw [hmv _ hlt]; exact hv, h1, hs, fun i e m hi hj => ⟨(hc i e m hi hj).1, (hc i e m hi hj).2.cutAt (hbel e (List.mem_of_getElem? hi))⟩, h6⟩
    · rw [hmv _ (hwf.mp i ri hi).1] at e1
      rw [hmv _ (hwf.mp j rj hj).1] at e2
      exact h.minj i j ri rj b (hm _ _ hi) (hm _ _ hj) e1 e2
    · rw [hvw _ _ (hwf.box id rows hr).1] at e
      exact h.vmax id rows vl x (hb _ _ hr) e
    · by_cases hi : id < H1.next
      · exact hi
      · simp [Gh.cutAt, hi] at e
    · by_cases hi : id < H1.next
      · exact hi
      · simp [Gh.cutAt, hi] at e
abbrev AF := Nat → PV
def AF.put (F : AF) (d : Option Nat) (p : PV) : AF := match d with
  | some d => fun t => if t = d then p else F t
  | none => F
@[simp] theorem AF.put_none (F : AF) (p : PV) : F.put none p = F := rfl
@[simp] theorem AF.put_some (F : AF) (d t : Nat) (p : PV) : (F.put (some d) p) t = if t = d then p else F t := rfl
/-- A literal as an abstract value. -/
def PV.lit : Value → PV
  | .agg vs => .agg (vs.toList.map .val)
  | v => .val v
def AF.ev (F : AF) : Operand → PV
  | .tmp t => F t
  | .const v => PV.lit v
  | .global g => .val (.pointer (some ⟨g, 0, none⟩))
  | .func f => .func f []
@[simp] theorem AF.ev_tmp (F : AF) (t : Nat) : F.ev (.tmp t) = F t := rfl
@[simp] theorem AF.ev_int (F : AF) (k : IntKind) (n : Int) : F.ev (.const (.int k n)) = .val (.int k n) := rfl
@[simp] theorem AF.ev_bool (F : AF) (b : Bool) : F.ev (.const (.bool b)) = .val (.bool b) := rfl
@[simp] theorem AF.ev_string (F : AF) (s : ByteArray) : F.ev (.const (.string s)) = .val (.string s) := rfl
@[simp] theorem AF.ev_slice (F : AF) (a : Option Addr) (l c : Nat) : F.ev (.const (.slice a l c)) = .val (.slice a l c) := rfl
@[simp] theorem AF.ev_agg (F : AF) (vs : Array Value) : F.ev (.const (.agg vs)) = .agg (vs.toList.map .val) := rfl
@[simp] theorem AF.ev_pointer (F : AF) (a : Option Addr) : F.ev (.const (.pointer a)) = .val (.pointer a) := rfl
@[simp] theorem AF.ev_nilFunc (F : AF) : F.ev (.const .nilFunc) = .val .nilFunc := rfl
@[simp] theorem AF.ev_nilIface (F : AF) : F.ev (.const .nilIface) = .val .nilIface := rfl
@[simp] theorem AF.ev_map (F : AF) (r : Option Nat) : F.ev (.const (.map r)) = .val (.map r) := rfl
@[simp] theorem AF.ev_float (F : AF) (k : FloatKind) (n : Nat) : F.ev (.const (.float k n)) = .val (.float k n) := rfl
@[simp] theorem AF.ev_func (F : AF) (f : FuncId) : F.ev (.func f) = .func f [] := rfl
@[simp] theorem AF.ev_global (F : AF) (g : Nat) : F.ev (.global g) = .val (.pointer (some ⟨g, 0, none⟩)) := rfl
/-- The empty slice, nil or not. -/
abbrev PV.nilS : PV := .slice 0 0 []
/-- Rows, frozen. -/
def PV.sl (c sz : Nat) (rows : List (List PV)) : PV := match rows with
  | [] => .nilS
  | r :: rs => .slice c sz (r :: rs)
@[simp] theorem PV.sl_nil (c sz : Nat) : PV.sl c sz [] = .nilS := rfl
abbrev PV.nil : PV := .val (.slice none 0 0)
def szOf (P : Program) (t : TypeId) : Option Nat := (P.info? t).map (·.size)
def zeroOf (P : Program) (t : TypeId) : Option (List PV) := (P.info? t).bind fun i => i.zero.map fun z => z.cells.toList.map .val
def aggOf (P : Program) (t : TypeId) : Option Bool := (P.underlying t).map fun | .struct _ | .array _ _ => true | _ => false
def bytesOf (P : Program) (t : TypeId) : Option Nat := (P.info? t).map (·.bytes)
def PV.cells : PV → List PV
  | .agg cs => cs
  | p => [p]
/-- A value that is one cell for sure. -/
def PV.atomic : PV → Bool
  | .val (.agg _) | .val (.tuple _) | .agg _ | .tuple _ | .junk => false
  | _ => true
/-- A value whose cells can be stored. -/
def PV.okCells : PV → Bool
  | .agg _ => true
  | p => p.atomic
/-- The part of a row at a place. -/
def partOf (P : Program) (t : TypeId) (cells : List PV) (off : Nat) : Option PV :=
  match aggOf P t, szOf P t with
  | some true, some sz => if off + sz ≤ cells.length then some (.agg ((cells.drop off).take sz)) else none
  | some false, _ => cells[off]?
  | _, _ => none
def aload (P : Program) (H : AS) (t : TypeId) (p : PV) : Option PV :=
  match p with
  | .ptr id vl row off => match H.box id with
    | some rows => if rows.length = vl then (rows[row]?).bind fun r => partOf P t r off else none
    | none => none
  | .rptr _ cells => partOf P t cells 0
  | _ => none
def AS.setBox (H : AS) (id : Nat) (rows : List (List PV)) : AS := { H with box := fun i => if i = id then some rows else H.box i }
def AS.kill (H : AS) (id : Nat) : AS := { H with box := fun i => if i = id then none else H.box i }
def AS.setMap (H : AS) (id : Nat) (es : List (Value × PV)) : AS := { H with mp := fun i => if i = id then some es else H.mp i }
def AS.bump (H : AS) (n : Nat) : AS := { H with next := H.next + n }
/-- A row with cells written over. -/
def splice (r : List PV) (off : Nat) (cs : List PV) : List PV := r.take off ++ cs ++ r.drop (off + cs.length)
def astore (P : Program) (H : AS) (t : TypeId) (p v : PV) : Option AS :=
  match p with
  | .ptr id vl row off => match H.box id, szOf P t with
    | some rows, some sz =>
      if rows.length = vl ∧ v.cells.length = sz ∧ v.okCells = true then
        (rows[row]?).bind fun r => if off + sz ≤ r.length then some (H.setBox id (rows.set row (splice r off v.cells))) else none
      else none
    | _, _ => none
  | _ => none
/-- Freezing: what is stored into a list speaks of frozen memory alone. -/
def frz (H : AS) (p : PV) : PV × AS :=
  match p with
  | .val (.slice none 0 0) => (.nilS, H)
  | .msl id len sz => match H.box id with
    | some rows => if rows.length = len then (PV.sl H.color sz rows, H.kill id) else (.msl id len sz, H)
    | none => (.msl id len sz, H)
  | p => (p, H)
def frzL (H : AS) : List PV → List PV × AS
  | [] => ([], H)
  | p :: ps => let (q, H') := frz H p; let (qs, H'') := frzL H' ps; (q :: qs, H'')
def frzR (H : AS) : List (List PV) → List (List PV) × AS
  | [] => ([], H)
  | r :: rs => let (q, H') := frzL H r; let (qs, H'') := frzR H' rs; (q :: qs, H'')
/-- A result, frozen. -/
def frzV (H : AS) : PV → PV × AS
  | .agg cs => let (q, H') := frzL H cs; (.agg q, H')
  | p => frz H p
def frzVs (H : AS) : List PV → List PV × AS
  | [] => ([], H)
  | p :: ps => let (q, H') := frzV H p; let (qs, H'') := frzVs H' ps; (q :: qs, H'')
/-- The rows of a slice that is read. -/
def rowsOf (H : AS) : PV → Option (List (List PV))
  | .val (.slice none 0 0) => some []
  | .slice _ _ rows => some rows
  | .msl id len _ => (H.box id).bind fun rows => if rows.length = len then some rows else none
  | _ => none
@[simp] theorem rowsOf_sl (H : AS) (c sz : Nat) (rows : List (List PV)) : rowsOf H (PV.sl c sz rows) = some rows := by cases rows <;> rfl
def lenOf : PV → Option Nat
  | .val (.slice none 0 0) => some 0
  | .slice _ _ rows => some rows.length
  | .msl _ len _ => some len
  | _ => none
@[simp] theorem lenOf_sl (c sz : Nat) (rows : List (List PV)) : lenOf (PV.sl c sz rows) = some rows.length := by cases rows <;> rfl
/-- The address of an element. -/
def aindex (sz : Nat) (x : PV) (i : Int) : Option PV :=
  match x with
  | .slice c s rows => if s = sz ∧ 0 ≤ i then (rows[i.toNat]?).map (.rptr c) else none
  | .msl id len s => if s = sz ∧ 0 ≤ i ∧ i.toNat < len then some (.ptr id len i.toNat 0) else none
  | _ => none
theorem aindex_sl (c sz : Nat) (rows : List (List PV)) (i : Int) (h0 : 0 ≤ i) {r : List PV} (h : rows[i.toNat]? = some r) : aindex sz (PV.sl c sz rows) i = some (.rptr c r) := by
  cases rows with
  | nil => simp at h
  | cons a l => simp [PV.sl, aindex, h0, h]
/-- A cut of a slice. -/
def acut (x : PV) (lo hi : Option Int) : Option PV :=
  match x with
  | .val (.slice none 0 0) => if lo.getD 0 = 0 ∧ hi.getD 0 = 0 then some .nil else none
  | .slice c sz rows =>
    let l := lo.getD 0
    let h := hi.getD rows.length
    if 0 ≤ l ∧ l ≤ h ∧ h ≤ rows.length then some (PV.sl c sz ((rows.take h.toNat).drop l.toNat)) else none
  | .val (.string s) =>
    let l := lo.getD 0
    let h := hi.getD s.size
    if 0 ≤ l ∧ l ≤ h ∧ h ≤ s.size then some (.val (.string (s.extract l.toNat h.toNat))) else none
  | _ => none
section
variable {P : Program} {G : Gh} {H : AS} {w : World}
theorem runSize {t : TypeId} {n : Nat} (h : szOf P t = some n) (w : World) : (sizeOf t).run P w = .ok n w := by
  unfold szOf at h
  cases hi : P.info? t with
  | none => simp [hi] at h
  | some i => simp [hi] at h; simp [sizeOf, run_typeInfo w hi, h]
theorem runBytes {t : TypeId} {n : Nat} (h : bytesOf P t = some n) (w : World) : ∃ i, (typeInfo t).run P w = .ok i w ∧ i.bytes = n := by
  unfold bytesOf at h
  cases hi : P.info? t with
  | none => simp [hi] at h
  | some i => simp [hi] at h; exact ⟨i, run_typeInfo w hi, h⟩
theorem runAgg {t : TypeId} {b : Bool} (h : aggOf P t = some b) (w : World) : (isAgg t).run P w = .ok b w := by
  unfold aggOf at h
  cases hu : P.underlying t with
  | none => simp [hu] at h
  | some d => cases d <;> simp [hu] at h <;> simp [isAgg, run_underlying hu, h]
theorem runZero {t : TypeId} {cs : List PV} (h : zeroOf P t = some cs) (w : World) : ∃ z : Value, (zeroValue t).run P w = .ok z w ∧ cs = z.cells.toList.map .val := by
  unfold zeroOf at h
  cases hi : P.info? t with
  | none => simp [hi] at h
  | some i =>
    cases hz : i.zero with
    | none => simp [hi, hz] at h
    | some z => simp [hi, hz] at h; exact ⟨z, by simp [zeroValue, run_typeInfo w hi, hz], by simp [h]⟩
/-- A stretch of cells that represents a row. -/
def RowAt (G : Gh) (f : Nat → Option Value) (r : List PV) : Prop := ∀ (j : Nat) (p : PV), r[j]? = some p → ∃ v, f j = some v ∧ v.oneCell' = true ∧ Rep G p v
theorem RowAt.sub {f : Nat → Option Value} {r : List PV} (h : RowAt G f r) (off n : Nat) : RowAt G (fun j => f (off + j)) ((r.drop off).take n) := by
  intro j p hp
  rw [List.getElem?_take] at hp
  split at hp
  · rw [List.getElem?_drop] at hp; exact h _ _ hp
  · cases hp
/-- A row as an array of values. -/
theorem RowAt.values {f : Nat → Option Value} {r : List PV} (h : RowAt G f r) : ∃ vs : Nat → Value, ∀ (j : Nat) (p : PV), r[j]? = some p → f j = some (vs j) ∧ (vs j).oneCell' = true ∧ Rep G p (vs j) := by
  refine ⟨fun j => (f j).getD undef, fun j p hp => ?_⟩
  obtain ⟨v, e, h1, hr⟩ := h j p hp
  simp [e, h1, hr]
theorem Rep.aggOf {r : List PV} {vs : Nat → Value} (h : ∀ (j : Nat) (p : PV), r[j]? = some p → (vs j).oneCell' = true ∧ Rep G p (vs j)) : Rep G (.agg r) (.agg ((List.range r.length).map vs).toArray) := by
  refine .agg (by simp) (fun j v hv => ?_) fun j p v hp hv => ?_
  · by_cases hj : j < r.length
    · simp [hj] at hv
      subst hv
      exact (h j _ (List.getElem?_eq_getElem hj)).1
    · simp [hj] at hv
  · have hj : j < r.length := (List.getElem?_eq_some_iff.1 hp).1
    simp [hj] at hv
    subst hv
    exact (h j p hp).2
theorem partOf_load {t : TypeId} {r : List PV} {off : Nat} {q : PV} (h : partOf P t r off = some q) {a : Addr} (hr : RowAt G (fun j => w.cell? (a.add j)) (r.drop off)) :
    ∃ v, (loadVar t a).run P w = .ok v w ∧ Rep G q v := by
  unfold partOf at h
  split at h
  · rename_i sz ha hs
    split at h
    · rename_i hle
      simp at h
      obtain ⟨vs, hvs⟩ := (hr.sub 0 sz).values
      simp only [Nat.zero_add, List.drop_zero] at hvs
      have hlen : ((r.drop off).take sz).length = sz := by simp; omega
      refine ⟨.agg ((List.range sz).map vs).toArray, ?_, ?_⟩
      · have hl := run_loadCells (P := P) w a sz vs (fun j hj => by
          have : j < ((r.drop off).take sz).length := by omega
          exact (hvs j _ (List.getElem?_eq_getElem this)).1)
        simp [loadVar, runAgg ha, runSize hs, hl]
      · rw [← h]
        have := Rep.aggOf (G := G) (r := (r.drop off).take sz) (vs := vs) (fun j p hp => (hvs j p hp).2)
        rwa [hlen] at this
    · cases h
  · rename_i _ ha
    obtain ⟨v, e, _, hrep⟩ := hr 0 q (by simpa using h)
    refine ⟨v, ?_, hrep⟩
    have e' : w.cell? a = some v := by simpa [Addr.add] using e
    simp [loadVar, runAgg ha, e']
  · cases h
theorem addr_add (b o j : Nat) : (⟨b, o, none⟩ : Addr).add j = ⟨b, o + j, none⟩ := by
  unfold Addr.add
  split <;> simp_all
theorem cell_of_block {b o : Nat} {vs : Array Value} {e : TypeId} {fz : Nat × Nat} (h : w.heap[b]? = some (.cells vs e fz)) : w.cell? ⟨b, o, none⟩ = vs[o]? := by
  simp [World.cell?, h]
theorem Rel.cell (h : Rel G H w) {c b o : Nat} {v : Value} (e : G.cell c b o = some v) : w.cell? ⟨b, o, none⟩ = some v := by
  unfold Gh.cell at e
  cases hr : G.ro b with
  | none => simp [hr] at e
  | some x =>
    obtain ⟨c', ob⟩ := x
    rw [hr] at e
    cases ob <;> simp at e
    rw [cell_of_block (h.ro _ _ _ hr)]
    exact e.2
/-- Where a pointer to a live box leads. -/
theorem Rel.at_ptr (h : Rel G H w) {id vl row off : Nat} {rows : List (List PV)} {r : List PV} {v : Value} (hr : Rep G (.ptr id vl row off) v) (hb : H.box id = some rows) (hl : rows.length = vl)
    (hrow : rows[row]? = some r) : ∃ b o, v = .pointer (some ⟨b, o, none⟩) ∧ RowAt G (fun j => w.cell? ⟨b, o + j, none⟩) (r.drop off) := by
  cases hr with
  | ptr hv =>
    rename_i b sz cap
    obtain ⟨b', sz', cap', vs, elem, fz, hv', hh, _, _, _, _, hc, h1c, _⟩ := h.box id rows hb
    rw [hl, hv] at hv'
    obtain ⟨rfl, rfl, rfl⟩ : b = b' ∧ sz = sz' ∧ cap = cap' := by simpa using hv'
    refine ⟨b, row * sz + off, rfl, fun j p hp => ?_⟩
    rw [List.getElem?_drop] at hp
    obtain ⟨x, e, hx⟩ := hc row r (off + j) p hrow hp
    refine ⟨x, ?_, h1c _ _ e, hx⟩
    show w.cell? ⟨b, row * sz + off + j, none⟩ = some x
    rw [cell_of_block hh, ← e]; congr 1; omega
theorem Rel.at_rptr (h : Rel G H w) {c : Nat} {cells : List PV} {v : Value} (hr : Rep G (.rptr c cells) v) : ∃ b o, v = .pointer (some ⟨b, o, none⟩) ∧ RowAt G (fun j => w.cell? ⟨b, o + j, none⟩) cells := by
  cases hr with
  | rptr vs h1 h3 h2 => exact ⟨_, _, rfl, fun j p hp => ⟨vs j, h.cell (h1 j p hp), h3 j p hp, h2 j p hp⟩⟩
theorem aload_sound (h : Rel G H w) {t : TypeId} {p q : PV} {v : Value} (hp : Rep G p v) (hl : aload P H t p = some q) : ∃ u, (Instr.loadAt t v).run P w = .ok u w ∧ Rep G q u := by
  unfold aload at hl
  split at hl
  · rename_i id vl row off
    split at hl
    · rename_i rows hb
      split at hl
      · rename_i hlen
        simp only [Option.bind_eq_some_iff] at hl
        obtain ⟨r, hrow, hpart⟩ := hl
        obtain ⟨b, o, rfl, hat⟩ := h.at_ptr hp hb hlen hrow
        obtain ⟨u, hu, hrep⟩ := partOf_load hpart (a := ⟨b, o, none⟩) (w := w) (G := G) (by simpa only [addr_add] using hat)
        exact ⟨u, by simp [Instr.loadAt, Instr.sureAddr, hu], hrep⟩
      · cases hl
    · cases hl
  · rename_i c cells
    obtain ⟨b, o, rfl, hat⟩ := h.at_rptr hp
    obtain ⟨u, hu, hrep⟩ := partOf_load hl (a := ⟨b, o, none⟩) (w := w) (G := G) (by simpa only [addr_add, List.drop_zero] using hat)
    exact ⟨u, by simp [Instr.loadAt, Instr.sureAddr, hu], hrep⟩
  · cases hl
end
/-- Values written one behind another. -/
def writeAll (vs : Array Value) (o : Nat) : List Value → Array Value
  | [] => vs
  | x :: xs => writeAll (vs.setIfInBounds o x) (o + 1) xs
theorem writeAll_size (xs : List Value) : ∀ (vs : Array Value) (o : Nat), (writeAll vs o xs).size = vs.size := by
  induction xs with
  | nil => intro vs o; rfl
  | cons x xs ih => intro vs o; rw [writeAll, ih]; simp
theorem writeAll_get (xs : List Value) : ∀ (vs : Array Value) (o k : Nat), o + xs.length ≤ vs.size →
    (writeAll vs o xs)[k]? = if o ≤ k ∧ k < o + xs.length then xs[k - o]? else vs[k]? := by
  induction xs with
  | nil => intro vs o k _; simp [writeAll]; intro h1 h2; omega
  | cons x xs ih =>
    intro vs o k hle
    simp only [List.length_cons] at hle
    rw [writeAll, ih _ _ _ (by simp; omega)]
    by_cases hk : k = o
    · subst hk
      rw [if_neg (by omega), if_pos (by simp)]
      have : k < vs.size := by omega
      simp [this]
    · by_cases h1 : o + 1 ≤ k ∧ k < o + 1 + xs.length
      · rw [if_pos h1, if_pos (by simp; omega)]
        obtain ⟨m, rfl⟩ : ∃ m, k = o + 1 + m := ⟨k - (o + 1), by omega⟩
        rw [show o + 1 + m - (o + 1) = m by omega, show o + 1 + m - o = m + 1 by omega]
        simp
      · rw [if_neg h1, if_neg (by simp; omega)]
        rw [Array.getElem?_setIfInBounds_ne (by omega)]
theorem setCell_heap (w : World) (b o : Nat) (v : Value) {vs : Array Value} {e : TypeId} {fz : Nat × Nat} (h : w.heap[b]? = some (.cells vs e fz)) :
    (w.setCell ⟨b, o, none⟩ v).heap[b]? = some (.cells (vs.setIfInBounds o v) e fz) := by
  simp [World.setCell, Array.getElem?_modify, h]
theorem setCell_heap_ne (w : World) (b o b' : Nat) (v : Value) (hb : b' ≠ b) : (w.setCell ⟨b, o, none⟩ v).heap[b']? = w.heap[b']? := by
  simp [World.setCell, Array.getElem?_modify, Ne.symm hb]
theorem setCells_heap (b : Nat) (xs : List Value) : ∀ (w : World) (o : Nat) (vs : Array Value) (e : TypeId) (fz : Nat × Nat), w.heap[b]? = some (.cells vs e fz) →
    (w.setCells b o xs).heap[b]? = some (.cells (writeAll vs o xs) e fz) := by
  induction xs with
  | nil => intro w o vs e fz h; exact h
  | cons x xs ih => intro w o vs e fz h; rw [World.setCells, writeAll]; exact ih _ _ _ _ _ (setCell_heap w b o x h)
theorem setCells_heap_ne (b b' : Nat) (hb : b' ≠ b) (xs : List Value) : ∀ (w : World) (o : Nat), (w.setCells b o xs).heap[b']? = w.heap[b']? := by
  induction xs with
  | nil => intro w o; rfl
  | cons x xs ih => intro w o; rw [World.setCells, ih, setCell_heap_ne _ _ _ _ _ hb]
theorem setCells_rest (b : Nat) (xs : List Value) : ∀ (w : World) (o : Nat), (w.setCells b o xs).os = w.os ∧ (w.setCells b o xs).output = w.output ∧ (w.setCells b o xs).tape = w.tape := by
  induction xs with
  | nil => intro w o; exact ⟨rfl, rfl, rfl⟩
  | cons x xs ih => intro w o; rw [World.setCells]; exact ih _ _
section
variable {P : Program} {G : Gh} {H : AS} {w : World}
@[simp] theorem setBox_box (H : AS) (id i : Nat) (rows : List (List PV)) : (H.setBox id rows).box i = if i = id then some rows else H.box i := rfl
@[simp] theorem setBox_mp (H : AS) (id : Nat) (rows : List (List PV)) : (H.setBox id rows).mp = H.mp := rfl
@[simp] theorem setBox_next (H : AS) (id : Nat) (rows : List (List PV)) : (H.setBox id rows).next = H.next := rfl
@[simp] theorem setBox_color (H : AS) (id : Nat) (rows : List (List PV)) : (H.setBox id rows).color = H.color := rfl
@[simp] theorem kill_box (H : AS) (id i : Nat) : (H.kill id).box i = if i = id then none else H.box i := rfl
@[simp] theorem kill_mp (H : AS) (id : Nat) : (H.kill id).mp = H.mp := rfl
@[simp] theorem kill_next (H : AS) (id : Nat) : (H.kill id).next = H.next := rfl
@[simp] theorem kill_color (H : AS) (id : Nat) : (H.kill id).color = H.color := rfl
@[simp] theorem bump_box (H : AS) (n : Nat) : (H.bump n).box = H.box := rfl
@[simp] theorem bump_mp (H : AS) (n : Nat) : (H.bump n).mp = H.mp := rfl
@[simp] theorem bump_next (H : AS) (n : Nat) : (H.bump n).next = H.next + n := rfl
@[simp] theorem bump_color (H : AS) (n : Nat) : (H.bump n).color = H.color := rfl
@[simp] theorem setMap_mp (H : AS) (id i : Nat) (es : List (Value × PV)) : (H.setMap id es).mp i = if i = id then some es else H.mp i := rfl
@[simp] theorem setMap_box (H : AS) (id : Nat) (es : List (Value × PV)) : (H.setMap id es).box = H.box := rfl
@[simp] theorem setMap_next (H : AS) (id : Nat) (es : List (Value × PV)) : (H.setMap id es).next = H.next := rfl
@[simp] theorem setMap_color (H : AS) (id : Nat) (es : List (Value × PV)) : (H.setMap id es).color = H.color := rfl
theorem BoxOk.other {w' : World} {id : Nat} {rows : List (List PV)} (h : BoxOk G w id rows) {b0 : Nat} (hne : ∀ b s c, G.view id rows.length = some (b, s, c) → b ≠ b0) (hw : ∀ b, b ≠ b0 → w'.heap[b]? = w.heap[b]?) : BoxOk G w' id rows := by
  obtain ⟨b, sz, cap, vs, elem, fz, hv, hh, rest⟩ := h
  exact ⟨b, sz, cap, vs, elem, fz, hv, by rw [hw b (hne _ _ _ hv)]; exact hh, rest⟩
/-- A live box is written: its rows turn, their number stays. -/
theorem Rel.write (h : Rel G H w) {id : Nat} {rows rows' : List (List PV)} (hb : H.box id = some rows) (hl : rows'.length = rows.length) {w' : World}
    (hnew : BoxOk G w' id rows') {b0 s0 c0 : Nat} (hv0 : G.view id rows.length = some (b0, s0, c0)) (hw : ∀ b, b ≠ b0 → w'.heap[b]? = w.heap[b]?)
    (hrest : w'.os = w.os ∧ w'.output = w.output ∧ w'.tape = w.tape) (hro : G.ro b0 = none) (hcells : ∃ vs e fz, w.heap[b0]? = some (.cells vs e fz)) : Rel G (H.setBox id rows') w' := by
  refine ⟨h.next, fun b c o e => ?_, fun i r hi => ?_, fun i j ri rj b s c s' c' hi hj e1 e2 => ?_, fun i es hi => ?_, h.minj, fun i r vl x hi hv => ?_, h.dom, h.mdom, by rw [hrest.1]; exact h.os, by rw [hrest.2.1]; exact h.out, by rw [hrest.2.2]; exact h.tape, h.base, h.exok⟩
  · have : b ≠ b0 := fun e' => by subst e'; rw [hro] at e; cases e
    rw [hw b this]; exact h.ro _ _ _ e
  · simp only [setBox_box] at hi
    split at hi
    · rename_i hid; subst hid; cases hi; exact hnew
    · rename_i hid
      refine (h.box i r hi).other (b0 := b0) (fun b s c hv e => ?_) hw
      subst e
      exact hid (h.inj i id r rows b s c s0 c0 hi hb hv hv0)
  · simp only [setBox_box] at hi hj
    have key : ∀ (k : Nat) (rk : List (List PV)), (if k = id then some rows' else H.box k) = some rk → ∃ r0, H.box k = some r0 ∧ r0.length = rk.length := by
      intro k rk hk
      split at hk
      · rename_i e; subst e; cases hk; exact ⟨rows, hb, hl.symm⟩
      · exact ⟨rk, hk, rfl⟩
    obtain ⟨r1, hr1, l1⟩ := key i ri hi
    obtain ⟨r2, hr2, l2⟩ := key j rj hj
    rw [← l1] at e1; rw [← l2] at e2
    exact h.inj i j r1 r2 b s c s' c' hr1 hr2 e1 e2
  · obtain ⟨b, ents, clock, hv, hh, rest⟩ := h.mp i es hi
    refine ⟨b, ents, clock, hv, ?_, rest⟩
    by_cases e : b = b0
    · subst e; obtain ⟨vs, e, fz, hc⟩ := hcells; rw [hh] at hc; cases hc
    · rw [hw b e]; exact hh
  · simp only [setBox_box] at hi
    split at hi
    · rename_i hid; subst hid; cases hi; rw [hl]; exact h.vmax _ _ _ _ hb hv
    · exact h.vmax _ _ _ _ hi hv
/-- The ghost with a new view of a number. -/
def Gh.addView (G : Gh) (id vl b sz cap : Nat) (n : Nat) : Gh := { G with view := fun i l => if i = id ∧ l = vl then some (b, sz, cap) else G.view i l, next := n }
theorem Gh.le_addView {id vl b sz cap n : Nat} (hnone : G.view id vl = none) (hn : G.next ≤ n) : G.le (G.addView id vl b sz cap n) :=
  ⟨fun _ _ e => e, fun i l x e => by
    show (if i = id ∧ l = vl then _ else G.view i l) = some x
    split
    · rename_i c; rw [c.1, c.2] at e; rw [hnone] at e; cases e
    · exact e, fun _ _ e => e, hn, rfl, fun _ _ e => e, fun _ _ _ => rfl⟩
theorem RowsAt.mono {G' : Gh} (hle : G.le G') {rows : List (List PV)} {f : Nat → Option Value} {sz : Nat}
    (h : ∀ (i : Nat) (r : List PV) (j : Nat) (p : PV), rows[i]? = some r → r[j]? = some p → ∃ v, f (i * sz + j) = some v ∧ Rep G p v) :
    ∀ (i : Nat) (r : List PV) (j : Nat) (p : PV), rows[i]? = some r → r[j]? = some p → ∃ v, f (i * sz + j) = some v ∧ Rep G' p v :=
  fun i r j p hi hj => let ⟨v, e, hr⟩ := h i r j p hi hj; ⟨v, e, hr.mono hle⟩
theorem BoxOk.mono {G' : Gh} (hle : G.le G') (hro : ∀ b, G'.ro b = G.ro b) {w' : World} (hw : ∀ (b : Nat) (o : Obj), w.heap[b]? = some o → w'.heap[b]? = some o) {id : Nat} {rows : List (List PV)} (h : BoxOk G w id rows) : BoxOk G' w' id rows := by
  obtain ⟨b, sz, cap, vs, elem, fz, hv, hh, h1, h2, h3, h4, h5, h7, h6⟩ := h
  exact ⟨b, sz, cap, vs, elem, fz, hle.view _ _ _ hv, hw _ _ hh, h1, h2, h3, h4, RowsAt.mono (f := fun k => vs[k]?) hle h5, h7, by rw [hro]; exact h6⟩
theorem MapOk.mono {G' : Gh} (hle : G.le G') (hro : ∀ b, G'.ro b = G.ro b) {w' : World} (hw : ∀ (b : Nat) (o : Obj), w.heap[b]? = some o → w'.heap[b]? = some o) {id : Nat} {es : List (Value × PV)} (h : MapOk G w id es) : MapOk G' w' id es := by
  obtain ⟨b, ents, clock, hv, hh, h1, h2, h3⟩ := h
  exact ⟨b, ents, clock, hle.mview _ _ hv, hw _ _ hh, h1, fun i e m hi hj => ⟨(h2 i e m hi hj).1, (h2 i e m hi hj).2.mono hle⟩, by rw [hro]; exact h3⟩
theorem Rel.lt (h : Rel G H w) {id : Nat} {rows : List (List PV)} (hb : H.box id = some rows) {b s c : Nat} (hv : G.view id rows.length = some (b, s, c)) : b < w.heap.size := by
  obtain ⟨b', sz, cap, vs, elem, fz, hv', hh, _⟩ := h.box id rows hb
  rw [hv] at hv'
  obtain ⟨rfl, rfl, rfl⟩ : b = b' ∧ s = sz ∧ c = cap := by simpa using hv'
  exact (Array.getElem?_eq_some_iff.1 hh).1
/-- A new box, numbered next, over a new block. -/
theorem Rel.alloc (h : Rel G H w) {rows : List (List PV)} {sz cap : Nat} {vs : Array Value} {elem : TypeId} {fz : Nat × Nat} {w' : World} (hw : w'.heap = w.heap.push (.cells vs elem fz))
    (hrest : w'.os = w.os ∧ w'.output = w.output ∧ w'.tape = w.tape) (hfz : FzOk vs.size fz) (hcap : cap * sz ≤ vs.size) (hlen : rows.length ≤ cap) (hrows : ∀ r ∈ rows, r.length = sz)
    (hc : ∀ (i : Nat) (r : List PV) (j : Nat) (p : PV), rows[i]? = some r → r[j]? = some p → ∃ v, vs[i * sz + j]? = some v ∧ Rep G p v) (h1c : ∀ (o : Nat) (v : Value), vs[o]? = some v → v.oneCell' = true) :
    let G' := G.addView H.next rows.length w.heap.size sz cap (H.next + 1)
    G.le G' ∧ Rel G' ((H.setBox H.next rows).bump 1) w' ∧ G'.view H.next rows.length = some (w.heap.size, sz, cap) := by
  intro G'
  have hnone : ∀ vl, G.view H.next vl = none := fun vl => by
    cases e : G.view H.next vl with
    | none => rfl
    | some x => have := h.dom _ _ _ e; rw [h.next] at this; omega
  have hle : G.le G' := Gh.le_addView (hnone _) (by rw [h.next]; omega)
  have hget : ∀ (b : Nat) (o : Obj), w.heap[b]? = some o → w'.heap[b]? = some o := fun b o e => by
    have hlt := (Array.getElem?_eq_some_iff.1 e).1
    rw [hw, Array.getElem?_push, if_neg (by omega)]; exact e
  have hbn : H.box H.next = none := by
    cases e : H.box H.next with
    | none => rfl
    | some r => have := (h.wf.box _ _ e).1; omega
  have hvG' : G'.view H.next rows.length = some (w.heap.size, sz, cap) := by simp [G', Gh.addView]
  have hvne : ∀ i l, i ≠ H.next → G'.view i l = G.view i l := fun i l hi => by simp [G', Gh.addView, hi]
  have hronew : G.ro w.heap.size = none := by
    cases e : G.ro w.heap.size with
    | none => rfl
    | some x => obtain ⟨c, o⟩ := x; have := (Array.getElem?_eq_some_iff.1 (h.ro _ _ _ e)).1; omega
  refine ⟨hle, ⟨rfl, fun b c o e => hget _ _ (h.ro _ _ _ e), fun i r hi => ?_, fun i j ri rj b s c s' c' hi hj e1 e2 => ?_, fun i es hi => ?_, fun i j ri rj b hi hj e1 e2 => h.minj i j ri rj b hi hj e1 e2, fun i r vl x hi hv => ?_, fun i l x e => ?_, fun i x e => ?_, by rw [hrest.1]; exact h.os, by rw [hrest.2.1]; exact h.out, by rw [hrest.2.2]; exact h.tape, h.base.mono hle, ⟨h.exok.all, h.exok.ro⟩⟩, hvG'⟩
  · simp only [bump_box, setBox_box] at hi
    split at hi
    · rename_i hid; subst hid; cases hi
      exact ⟨w.heap.size, sz, cap, vs, elem, fz, hvG', by rw [hw]; simp, hfz, hcap, hlen, hrows, RowsAt.mono (f := fun k => vs[k]?) hle hc, h1c, hronew⟩
    · exact (h.box i r hi).mono hle (fun _ => rfl) hget
  · simp only [bump_box, setBox_box] at hi hj
    by_cases h1 : i = H.next
    · by_cases h2 : j = H.next
      · omega
      · rw [if_pos h1] at hi; rw [if_neg h2] at hj; cases hi
        subst h1
        rw [hvG'] at e1
        rw [hvne _ _ h2] at e2
        have := h.lt hj e2
        simp at e1
        omega
    · rw [if_neg h1] at hi
      rw [hvne _ _ h1] at e1
      by_cases h2 : j = H.next
      · rw [if_pos h2] at hj; cases hj
        subst h2
        rw [hvG'] at e2
        have := h.lt hi e1
        simp at e2
        omega
      · rw [if_neg h2] at hj
        rw [hvne _ _ h2] at e2
        exact h.inj i j ri rj b s c s' c' hi hj e1 e2
  · exact (h.mp i es hi).mono hle (fun _ => rfl) hget
  · simp only [bump_box, setBox_box] at hi
    by_cases hid : i = H.next
    · subst hid
      rw [if_pos rfl] at hi; cases hi
      by_cases e : vl = rows.length
      · omega
      · have : G'.view H.next vl = G.view H.next vl := by simp [G', Gh.addView, e]
        rw [this, hnone] at hv; cases hv
    · rw [if_neg hid] at hi
      rw [hvne _ _ hid] at hv
      exact h.vmax _ _ _ _ hi hv
  · by_cases hid : i = H.next
    · subst hid; show H.next < H.next + 1; omega
    · rw [hvne _ _ hid] at e
      have := h.dom _ _ _ e
      rw [h.next] at this
      show i < H.next + 1; omega
  · have := h.mdom _ _ e
    rw [h.next] at this
    show i < H.next + 1; omega
/-- Freezing a live box. -/
theorem Rel.freeze (h : Rel G H w) {id : Nat} {rows : List (List PV)} (hb : H.box id = some rows) :
    ∃ G', G.le G' ∧ Rel G' (H.kill id) w ∧ ∀ sz v, Rep G (.msl id rows.length sz) v → Rep G' (PV.sl H.color sz rows) v := by
  obtain ⟨b, sz, cap, vs, elem, fz, hv, hh, hfz, hcap, hlen, hrows, hc, h1c, hro⟩ := h.box id rows hb
  let G' : Gh := { G with ro := fun x => if x = b then some (H.color, .cells vs elem fz) else G.ro x, ex := fun x => if x = b then some (rows.length, sz, cap) else G.ex x }
  have hexn : G.ex b = none := by
    cases e : G.ex b with
    | none => rfl
    | some x => obtain ⟨y, hy⟩ := h.exok.ro b x e; rw [hro] at hy; cases hy
  have hle : G.le G' := ⟨fun x y e => by
    show (if x = b then _ else G.ro x) = some y
    split
    · rename_i c; rw [c, hro] at e; cases e
    · exact e, fun _ _ _ e => e, fun _ _ e => e, Nat.le_refl _, rfl, fun x y e => by
    show (if x = b then _ else G.ex x) = some y
    split
    · rename_i c; rw [c, hexn] at e; cases e
    · exact e, fun x y e => by
    show (if x = b then _ else G.ex x) = G.ex x
    split
    · rename_i c; rw [c, hro] at e; cases e
    · rfl⟩
  have hcell : ∀ o v, vs[o]? = some v → G'.cell H.color b o = some v := fun o v e => by simp [Gh.cell, G', e]
  refine ⟨G', hle, ⟨h.next, fun x c o e => ?_, fun i r hi => ?_, fun i j ri rj b s c s' c' hi hj e1 e2 => ?_, fun i es hi => ?_, h.minj, fun i r vl x hi hvv => ?_, h.dom, h.mdom, h.os, h.out, h.tape, h.base.mono hle, ⟨fun x c o e hc2 => ?_, fun x y e => ?_⟩⟩, fun s v hr => ?_⟩
  · simp only [G'] at e
    split at e
    · rename_i c; cases e; rw [c]; exact hh
    · exact h.ro _ _ _ e
  · simp only [kill_box] at hi
    split at hi
    · cases hi
    · rename_i hid
      obtain ⟨b', sz', cap', vs', elem', fz', hv', hh', h1, h2, h3, h4, h5, h7, h6⟩ := h.box i r hi
      have hne : b' ≠ b := fun e => by subst e; exact hid (h.inj i id r rows b' sz' cap' sz cap hi hb hv' hv)
      exact ⟨b', sz', cap', vs', elem', fz', hv', hh', h1, h2, h3, h4, RowsAt.mono (f := fun k => vs'[k]?) hle h5, h7, by simp [G', hne, h6]⟩
  · simp only [kill_box] at hi hj
    split at hi
    · cases hi
    · split at hj
      · cases hj
      · exact h.inj i j ri rj b s c s' c' hi hj e1 e2
  · obtain ⟨b', ents, clock, hv', hh', h1, h2, h3⟩ := h.mp i es hi
    have hne : b' ≠ b := fun e => by subst e; rw [hh] at hh'; cases hh'
    exact ⟨b', ents, clock, hv', hh', h1, fun i e m hi hj => ⟨(h2 i e m hi hj).1, (h2 i e m hi hj).2.mono hle⟩, by simp [G', hne, h3]⟩
  · simp only [kill_box] at hi
    split at hi
    · cases hi
    · exact h.vmax _ _ _ _ hi hvv
  · simp only [G'] at e ⊢
    split at e
    · rename_i c; cases e
      exact ⟨rows.length, sz, cap, vs, elem, fz, by rw [if_pos c], rfl, hfz, hcap, hlen, h1c⟩
    · rename_i c
      rw [if_neg c]
      exact h.exok.all x _ _ e hc2
  · simp only [G'] at e ⊢
    split at e
    · rename_i c; exact ⟨_, by rw [if_pos c]⟩
    · rename_i c
      rw [if_neg c]
      exact h.exok.ro x _ e
  · cases hr with
    | msl e =>
      rename_i b' cap'
      rw [hv] at e
      obtain ⟨rfl, rfl, rfl⟩ : b = b' ∧ sz = s ∧ cap = cap' := by simpa using e
      cases hrw : rows with
      | nil =>
        simp only [PV.sl_nil, List.length_nil]
        exact .slice (rows := []) (fun _ _ => undef) (fun h => absurd h (by decide)) (by simp) (by simp) (by simp) (by simp) (by simp)
      | cons r0 rs =>
        rw [← hrw]
        have : PV.sl H.color sz rows = .slice H.color sz rows := by rw [hrw]; rfl
        rw [this]
        refine .slice (fun i j => (vs[i * sz + j]?).getD undef) (fun _ => ⟨rfl, by simp [G']⟩) hlen (fun i r hi => hrows r (List.mem_of_getElem? hi)) (fun i r j p hi hj => ?_) (fun i r j p hi hj => ?_) (fun i r j p hi hj => ?_)
        · obtain ⟨v, e, _⟩ := hc i r j p hi hj
          rw [Nat.zero_add, hcell _ v e, e]; rfl
        · obtain ⟨v, e, _⟩ := hc i r j p hi hj
          rw [e]; exact h1c _ _ e
        · obtain ⟨v, e, hrep⟩ := hc i r j p hi hj
          rw [e]; exact hrep.mono hle
end
theorem index_ne {i row sz j k : Nat} (h : i ≠ row) (hj : j < sz) (hk : k < sz) : i * sz + j ≠ row * sz + k := by
  intro e
  rcases Nat.lt_or_gt_of_ne h with hlt | hlt
  · have := Nat.mul_le_mul_right sz (show i + 1 ≤ row from hlt)
    rw [Nat.add_mul, Nat.one_mul] at this; omega
  · have := Nat.mul_le_mul_right sz (show row + 1 ≤ i from hlt)
    rw [Nat.add_mul, Nat.one_mul] at this; omega
theorem splice_length {r cs : List PV} {off : Nat} (h : off + cs.length ≤ r.length) : (splice r off cs).length = r.length := by
  simp [splice]; omega
theorem splice_get {r cs : List PV} {off : Nat} (h : off + cs.length ≤ r.length) (j : Nat) :
    (splice r off cs)[j]? = if off ≤ j ∧ j < off + cs.length then cs[j - off]? else r[j]? := by
  have ht : (r.take off).length = off := by simp; omega
  unfold splice
  by_cases h1 : j < off
  · rw [List.append_assoc, List.getElem?_append_left (by omega), List.getElem?_take, if_pos h1, if_neg (by omega)]
  · rw [List.append_assoc, List.getElem?_append_right (by omega), ht]
    by_cases h2 : j < off + cs.length
    · rw [List.getElem?_append_left (by omega), if_pos (by omega)]
    · rw [List.getElem?_append_right (by omega), List.getElem?_drop, if_neg (by omega)]
      congr 1; omega
section
variable {P : Program} {G : Gh} {H : AS} {w : World}
/-- The cells of a value that may be stored. -/
theorem Rep.cells {v : PV} {y : Value} (h : Rep G v y) (ho : v.okCells = true) : v.cells.length = y.cells.size ∧ (∀ (j : Nat) (p : PV) (u : Value), v.cells[j]? = some p → y.cells[j]? = some u → Rep G p u) ∧
    ∀ (j : Nat) (u : Value), y.cells[j]? = some u → u.oneCell' = true := by
  have one : ∀ {v : PV} {y : Value}, Rep G v y → v.cells = [v] → y.cells = #[y] → y.oneCell' = true → v.cells.length = y.cells.size ∧ (∀ (j : Nat) (p : PV) (u : Value), v.cells[j]? = some p → y.cells[j]? = some u → Rep G p u) ∧
      ∀ (j : Nat) (u : Value), y.cells[j]? = some u → u.oneCell' = true := by
    intro v y h e1 e2 e3
    rw [e1, e2]
    refine ⟨rfl, fun j p u hp hu => ?_, fun j u hu => ?_⟩
    · cases j with
      | zero => simp at hp hu; subst hp; subst hu; exact h
      | succ j => simp at hp
    · cases j with
      | zero => simp at hu; subst hu; exact e3
      | succ j => simp at hu
  cases h with
  | val y => cases y <;> first | (exact one (.val _) rfl rfl rfl) | (simp [PV.okCells, PV.atomic] at ho)
  | junk y => simp [PV.okCells, PV.atomic] at ho
  | ptr e => exact one (.ptr e) rfl rfl rfl
  | rptr vs h1 h2 h3 => exact one (.rptr vs h1 h2 h3) rfl rfl rfl
  | slice vs hx h0 h1 h2 h3 h4 => exact one (.slice vs hx h0 h1 h2 h3 h4) rfl rfl rfl
  | nilSlice => exact one .nilSlice rfl rfl rfl
  | emptySlice => exact one .emptySlice rfl rfl rfl
  | msl e => exact one (.msl e) rfl rfl rfl
  | func h1 h2 => exact one (.func h1 h2) rfl rfl rfl
  | bound h1 h2 => exact one (.bound h1 h2) rfl rfl rfl
  | iface h1 => exact one (.iface h1) rfl rfl rfl
  | agg h1 h2 h3 => exact ⟨h1, h3, h2⟩
  | tuple h1 h2 => simp [PV.okCells, PV.atomic] at ho
  | map e => exact one (.map e) rfl rfl rfl
theorem astore_sound (h : Rel G H w) {t : TypeId} {p v : PV} {x y : Value} {H' : AS} (hp : Rep G p x) (hv : Rep G v y) (hs : astore P H t p v = some H') :
    ∃ w', (Instr.storeAt t x y).run P w = .ok () w' ∧ Rel G H' w' := by
  unfold astore at hs
  split at hs
  · rename_i id vl row off
    split at hs
    · rename_i rows sz hb hsz
      split at hs
      · rename_i hc
        obtain ⟨hlen, hcl, hok⟩ := hc
        simp only [Option.bind_eq_some_iff] at hs
        obtain ⟨r, hrow, hs⟩ := hs
        split at hs
        · rename_i hle
          simp at hs
          subst hs
          obtain ⟨c1, c2, c3⟩ := hv.cells hok
          cases hp with
          | ptr hview =>
            rename_i b s cap
            obtain ⟨b', s', cap', vs, elem, fz, hv', hh, hfz, hcap, hlencap, hrows, hcells, h1c, hro⟩ := h.box id rows hb
            rw [hlen, hview] at hv'
            obtain ⟨rfl, rfl, rfl⟩ : b = b' ∧ s = s' ∧ cap = cap' := by simpa using hv'
            have hr : r.length = s := hrows r (List.mem_of_getElem? hrow)
            have hrowlt : row < rows.length := (List.getElem?_eq_some_iff.1 hrow).1
            have hend : row * s + s ≤ vs.size := by
              have : (row + 1) * s ≤ cap * s := Nat.mul_le_mul_right s (by omega)
              rw [Nat.add_mul, Nat.one_mul] at this; omega
            have hys : y.cells.size = sz := by rw [← c1]; exact hcl
            have hcellat : ∀ o, w.cell? ⟨b, o, none⟩ = vs[o]? := fun o => cell_of_block hh
            have hrun := run_storeCells_cells (P := P) b (row * s + off) y.cells.toList 0 w (fun j hj => by
                simp at hj
                rw [hcellat]
                have : row * s + off + j < vs.size := by omega
                simp [this]) (fun j hj => by
                simp at hj
                simp only [World.frozen?, hh]
                have := hfz.not (row * s + off + 0 + j) (by omega)
                simpa using this) (fun u hu => by
                obtain ⟨j, hj⟩ := List.getElem?_of_mem hu
                exact c3 j u (by simpa using hj))
            refine ⟨w.setCells b (row * s + off) y.cells.toList, ?_, ?_⟩
            · simp only [Nat.add_zero] at hrun
              simp [Instr.storeAt, Instr.sureAddr, storeVar, runSize hsz, hys, hrun]
            · have hv0 : G.view id rows.length = some (b, s, cap) := by rw [hlen]; exact hview
              refine h.write hb (by simp) ?_ hv0 (fun b' hb' => setCells_heap_ne b b' hb' _ w _) (setCells_rest b _ w _) hro ⟨vs, elem, fz, hh⟩
              refine ⟨b, s, cap, writeAll vs (row * s + off) y.cells.toList, elem, fz, by simpa using hv0, setCells_heap b _ w _ vs elem fz hh, ?_, ?_, by simpa using hlencap, ?_, ?_, ?_, hro⟩
              · rw [writeAll_size]; exact hfz
              · rw [writeAll_size]; exact hcap
              · intro r' hr'
                rw [List.mem_iff_getElem?] at hr'
                obtain ⟨i, hi⟩ := hr'
                rw [List.getElem?_set] at hi
                by_cases e : row = i
                · rw [if_pos e, if_pos (e ▸ hrowlt)] at hi
                  simp at hi; rw [← hi, splice_length (by omega)]; exact hr
                · rw [if_neg e] at hi; exact hrows r' (List.mem_of_getElem? hi)
              · intro i r' j q hi hj
                rw [writeAll_get _ _ _ _ (by simp; omega)]
                rw [List.getElem?_set] at hi
                by_cases e : row = i
                · subst e
                  rw [if_pos rfl, if_pos hrowlt] at hi
                  simp at hi
                  rw [← hi, splice_get (by omega)] at hj
                  split at hj
                  · rename_i hin
                    rw [if_pos (by simp; omega)]
                    have hlt : j - off < y.cells.size := by omega
                    refine ⟨y.cells[j - off], ?_, c2 (j - off) q _ hj (by simp [hlt])⟩
                    rw [show row * s + j - (row * s + off) = j - off by omega]
                    simp [hlt]
                  · rename_i hin
                    rw [if_neg (by simp; omega)]
                    exact hcells row r j q hrow hj
                · rw [if_neg e] at hi
                  have hjl : j < s := by
                    have := (List.getElem?_eq_some_iff.1 hj).1
                    rw [hrows r' (List.mem_of_getElem? hi)] at this; exact this
                  rw [if_neg ?_]
                  · exact hcells i r' j q hi hj
                  · simp
                    intro h1
                    by_cases h2 : i * s + j < row * s + off + y.cells.size
                    · exfalso
                      have := index_ne (Ne.symm e) hjl (k := i * s + j - row * s) (by omega)
                      omega
                    · omega
              · intro o u hu
                rw [writeAll_get _ _ _ _ (by simp; omega)] at hu
                split at hu
                · exact c3 _ u (by simpa using hu)
                · exact h1c _ _ hu
        · cases hs
      · cases hs
    · cases hs
  · cases hs
/-- A stretch of a list of values that represent a list. -/
def RepL (G : Gh) (l : List PV) (vs : Nat → Value) : Prop := ∀ (j : Nat) (p : PV), l[j]? = some p → Rep G p (vs j)
theorem RepL.mono {G' : Gh} (hle : G.le G') {l : List PV} {vs : Nat → Value} (h : RepL G l vs) : RepL G' l vs := fun j p hp => (h j p hp).mono hle
theorem frz_sound (h : Rel G H w) {p : PV} {v : Value} (hp : Rep G p v) : ∃ G', G.le G' ∧ Rel G' (frz H p).2 w ∧ Rep G' (frz H p).1 v := by
  unfold frz
  split
  · cases hp; exact ⟨G, .refl G, h, .nilSlice⟩
  · rename_i id len sz
    split
    · rename_i rows hb
      split
      · rename_i hlen
        obtain ⟨G', hle, hrel, hrep⟩ := h.freeze hb
        exact ⟨G', hle, hrel, hrep sz v (by rw [hlen]; exact hp)⟩
      · exact ⟨G, .refl G, h, hp⟩
    · exact ⟨G, .refl G, h, hp⟩
  · exact ⟨G, .refl G, h, hp⟩
theorem frzL_sound : ∀ (l : List PV) {G : Gh} {H : AS} (_ : Rel G H w) {vs : Nat → Value} (_ : RepL G l vs),
    ∃ G', G.le G' ∧ Rel G' (frzL H l).2 w ∧ (frzL H l).1.length = l.length ∧ RepL G' (frzL H l).1 vs
  | [], G, H, h, vs, _ => ⟨G, .refl G, h, rfl, fun j p hp => by simp [frzL] at hp⟩
  | p :: ps, G, H, h, vs, hl => by
    obtain ⟨G1, le1, r1, p1⟩ := frz_sound h (hl 0 p rfl)
    obtain ⟨G2, le2, r2, n2, p2⟩ := frzL_sound ps r1 (vs := fun j => vs (j + 1)) (fun j q hq => (hl (j + 1) q (by simpa using hq)).mono le1)
    refine ⟨G2, le1.trans le2, r2, by simp [frzL, n2], fun j q hq => ?_⟩
    cases j with
    | zero => simp [frzL] at hq; subst hq; exact p1.mono le2
    | succ j => simp [frzL] at hq; exact p2 j q hq
def RepR (G : Gh) (rows : List (List PV)) (vs : Nat → Nat → Value) : Prop := ∀ (i : Nat) (r : List PV), rows[i]? = some r → RepL G r (vs i)
theorem frzR_sound : ∀ (l : List (List PV)) {G : Gh} {H : AS} (_ : Rel G H w) {vs : Nat → Nat → Value} (_ : RepR G l vs),
    ∃ G', G.le G' ∧ Rel G' (frzR H l).2 w ∧ (frzR H l).1.length = l.length ∧ (∀ (i : Nat) (r : List PV), (frzR H l).1[i]? = some r → ∃ r0, l[i]? = some r0 ∧ r.length = r0.length) ∧ RepR G' (frzR H l).1 vs
  | [], G, H, h, vs, _ => ⟨G, .refl G, h, rfl, fun i r hr => by simp [frzR] at hr, fun i r hr => by simp [frzR] at hr⟩
  | p :: ps, G, H, h, vs, hl => by
    obtain ⟨G1, le1, r1, n1, p1⟩ := frzL_sound p h (hl 0 p rfl)
    obtain ⟨G2, le2, r2, n2, m2, p2⟩ := frzR_sound ps r1 (vs := fun j => vs (j + 1)) (fun i r hr => (hl (i + 1) r (by simpa using hr)).mono le1)
    refine ⟨G2, le1.trans le2, r2, by simp [frzR, n2], fun i r hr => ?_, fun i r hr => ?_⟩
    · cases i with
      | zero => simp [frzR] at hr; subst hr; exact ⟨p, rfl, n1⟩
      | succ i => simp [frzR] at hr; simpa using m2 i r hr
    · cases i with
      | zero => simp [frzR] at hr; subst hr; exact p1.mono le2
      | succ i => simp [frzR] at hr; exact p2 i r hr
end
def aalloc (P : Program) (H : AS) (t : TypeId) : Option (PV × AS) :=
  match zeroOf P t with
  | some zs => if zs.all PV.atomic = true then some (.ptr H.next 1 0 0, (H.setBox H.next [zs]).bump 1) else none
  | none => none
def abox (H : AS) (p : PV) : Option (PV × AS) := if p.okCells = true then some (.ptr H.next 1 0 0, (H.setBox H.next [p.cells]).bump 1) else none
/-- What is handed on: frozen, or as it stands. -/
def fzR (fz : Bool) (H : AS) (l : List (List PV)) : List (List PV) × AS := if fz = true then frzR H l else (l, H)
def abuildX (fz : Bool) (P : Program) (H : AS) (t : TypeId) (len : Nat) (parts : List (Nat × PV)) : Option (PV × AS) :=
  match P.underlying t with
  | some (.slice elem) => match szOf P elem, zeroOf P elem with
    | some sz, some _ =>
      if parts.map (·.1) = List.range len ∧ len * sz ≤ 2 ^ 24 ∧ (∀ x ∈ parts, x.2.okCells = true ∧ x.2.cells.length = sz) then
        let (rows, H1) := fzR fz H (parts.map (·.2.cells))
        some (.msl H1.next len sz, (H1.setBox H1.next rows).bump 1)
      else none
    | _, _ => none
  | _ => none
def abuildSlice (P : Program) (H : AS) (t : TypeId) (len : Nat) (parts : List (Nat × PV)) : Option (PV × AS) :=
  match P.underlying t with
  | some (.slice elem) => match szOf P elem, zeroOf P elem with
    | some sz, some _ =>
      if parts.map (·.1) = List.range len ∧ len * sz ≤ 2 ^ 24 ∧ (∀ x ∈ parts, x.2.okCells = true ∧ x.2.cells.length = sz) then
        let (rows, H1) := frzR H (parts.map (·.2.cells))
        some (.msl H1.next len sz, (H1.setBox H1.next rows).bump 1)
      else none
    | _, _ => none
  | _ => none
def abuildRaw (P : Program) (H : AS) (t : TypeId) (len : Nat) (parts : List (Nat × PV)) : Option (PV × AS) :=
  match P.underlying t with
  | some (.slice elem) => match szOf P elem, zeroOf P elem with
    | some sz, some _ =>
      if parts.map (·.1) = List.range len ∧ len * sz ≤ 2 ^ 24 ∧ (∀ x ∈ parts, x.2.okCells = true ∧ x.2.cells.length = sz) then
        some (.msl H.next len sz, (H.setBox H.next (parts.map (·.2.cells))).bump 1)
      else none
    | _, _ => none
  | _ => none
theorem abuildSlice_eq (P : Program) (H : AS) (t : TypeId) (len : Nat) (parts : List (Nat × PV)) : abuildSlice P H t len parts = abuildX true P H t len parts := rfl
theorem abuildRaw_eq (P : Program) (H : AS) (t : TypeId) (len : Nat) (parts : List (Nat × PV)) : abuildRaw P H t len parts = abuildX false P H t len parts := rfl
def amakeSlice (P : Program) (H : AS) (t : TypeId) (l c : PV) : Option (PV × AS) :=
  match P.underlying t, l, c with
  | some (.slice elem), .val (.int .i64 l), .val (.int .i64 c) => match szOf P elem, zeroOf P elem, bytesOf P elem with
    | some sz, some zs, some by_ =>
      if 0 ≤ l ∧ l ≤ c ∧ by_ * c ≤ 2 ^ 47 ∧ c < 2 ^ 63 ∧ zs.length = sz ∧ zs.all PV.atomic = true then
        some (.msl H.next l.toNat sz, (H.setBox H.next (List.replicate l.toNat zs)).bump 1)
      else none
    | _, _, _ => none
  | _, _, _ => none
section
variable {P : Program} {G : Gh} {H : AS} {w : World}
theorem atomic_val {v : Value} (h : (PV.val v).atomic = true) : v.oneCell' = true := by cases v <;> simp [PV.atomic] at h <;> rfl
theorem aalloc_sound (h : Rel G H w) {t : TypeId} {q : PV} {H' : AS} (ha : aalloc P H t = some (q, H')) :
    ∃ v w' G', (Instr.alloc t true (.tuple #[])).run P w = .ok v w' ∧ G.le G' ∧ Rel G' H' w' ∧ Rep G' q v := by
  unfold aalloc at ha
  split at ha
  · rename_i zs hz
    split at ha
    · rename_i hat
      simp at ha
      obtain ⟨rfl, rfl⟩ := ha
      obtain ⟨z, hzr, rfl⟩ := runZero hz w
      have hone : ∀ (o : Nat) (v : Value), z.cells[o]? = some v → v.oneCell' = true := fun o v hv => by
        rw [List.all_eq_true] at hat
        exact atomic_val (hat (.val v) (List.mem_map.2 ⟨v, by simpa using Array.mem_of_getElem? hv, rfl⟩))
      obtain ⟨hle, hrel, hview⟩ := h.alloc (w' := { w with heap := w.heap.push (.cells z.cells t (0, 0)) }) (rows := [z.cells.toList.map .val]) (sz := z.cells.size) (cap := 1) (vs := z.cells) (elem := t) (fz := (0, 0)) rfl ⟨rfl, rfl, rfl⟩
        (.inl rfl) (by simp) (by simp) (by simp) (fun i r j p hi hj => by
          cases i with
          | zero =>
            simp at hi; subst hi
            rw [List.getElem?_map] at hj
            simp only [Option.map_eq_some_iff] at hj
            obtain ⟨v, hv, rfl⟩ := hj
            exact ⟨v, by simpa using hv, .val v⟩
          | succ i => simp at hi) hone
      refine ⟨.pointer (some ⟨w.heap.size, 0, none⟩), _, _, ?_, hle, hrel, ?_⟩
      · simp [Instr.alloc, hzr, newVar, newRow]
      · have := Rep.ptr (row := 0) (off := 0) hview
        simpa using this
    · cases ha
  · cases ha
theorem abox_sound (h : Rel G H w) {t : TypeId} {p q : PV} {v : Value} {H' : AS} (hp : Rep G p v) (ha : abox H p = some (q, H')) :
    ∃ u w' G', (Instr.box t v).run P w = .ok u w' ∧ G.le G' ∧ Rel G' H' w' ∧ Rep G' q u := by
  unfold abox at ha
  split at ha
  · rename_i hok
    simp at ha
    obtain ⟨rfl, rfl⟩ := ha
    obtain ⟨c1, c2, c3⟩ := hp.cells hok
    obtain ⟨hle, hrel, hview⟩ := h.alloc (w' := { w with heap := w.heap.push (.cells v.cells t (0, 0)) }) (rows := [p.cells]) (sz := v.cells.size) (cap := 1) (vs := v.cells) (elem := t) (fz := (0, 0)) rfl ⟨rfl, rfl, rfl⟩
      (.inl rfl) (by simp) (by simp) (by simpa using c1) (fun i r j q hi hj => by
        cases i with
        | zero =>
          simp at hi; subst hi
          have hlt : j < v.cells.size := by rw [← c1]; exact (List.getElem?_eq_some_iff.1 hj).1
          exact ⟨v.cells[j], by simp [hlt], c2 j q _ hj (by simp [hlt])⟩
        | succ i => simp at hi) c3
    refine ⟨.pointer (some ⟨w.heap.size, 0, none⟩), _, _, by simp [Instr.box, newVar, newRow], hle, hrel, ?_⟩
    have := Rep.ptr (row := 0) (off := 0) hview
    simpa using this
  · cases ha
theorem foldl_write (off : Nat) (cs : List Value) : ∀ (k : Nat) (a : Array Value), (cs.zipIdx k).foldl (fun a (x : Value × Nat) => a.setIfInBounds (off + x.2) x.1) a = writeAll a (off + k) cs := by
  induction cs with
  | nil => intro k a; rfl
  | cons c cs ih => intro k a; simp only [List.zipIdx_cons, List.foldl_cons, writeAll]; rw [ih]; rfl
theorem fill_rows (sz : Nat) : ∀ (vs : List Value) (m : Nat) (cells : Array Value), (∀ v ∈ vs, v.cells.size = sz) → (m + vs.length) * sz ≤ cells.size →
    ∃ cells', Instr.fill (fun i => some (i * sz, sz)) cells (vs.zipIdx m |>.map fun x => (x.2, x.1)) = some cells' ∧ cells'.size = cells.size ∧
      (∀ (i : Nat) (v : Value) (j : Nat), vs[i]? = some v → j < sz → cells'[(m + i) * sz + j]? = v.cells[j]?) ∧ (∀ k, k < m * sz → cells'[k]? = cells[k]?)
  | [], m, cells, _, _ => ⟨cells, rfl, rfl, fun i v j hi _ => by simp at hi, fun _ _ => rfl⟩
  | v :: vs, m, cells, hs, hle => by
    have hv : v.cells.size = sz := hs v (by simp)
    have hmsz : m * sz + sz ≤ cells.size := by
      have : (m + 1) * sz ≤ (m + (v :: vs).length) * sz := Nat.mul_le_mul_right sz (by simp)
      rw [Nat.add_mul, Nat.one_mul] at this; omega
    obtain ⟨cells', e, hsz, hnew, hold⟩ := fill_rows sz vs (m + 1) (writeAll cells (m * sz) v.cells.toList) (fun x hx => hs x (by simp [hx])) (by
      rw [writeAll_size]; have : m + 1 + vs.length = m + (v :: vs).length := by simp; omega
      rw [this]; exact hle)
    refine ⟨cells', ?_, by rw [hsz, writeAll_size], fun i u j hi hj => ?_, fun k hk => ?_⟩
    · rw [← e]
      simp only [List.zipIdx_cons, List.map_cons, Instr.fill, hv]
      rw [if_neg (by simp; omega)]
      congr 1
      have := foldl_write (m * sz) v.cells.toList 0 cells
      rw [Nat.add_zero] at this
      rw [← this, ← Array.foldl_toList]
      simp
    · cases i with
      | zero =>
        simp at hi; subst hi
        have hk : m * sz + j < (m + 1) * sz := by rw [Nat.add_mul, Nat.one_mul]; omega
        rw [Nat.add_zero, hold _ hk, writeAll_get _ _ _ _ (by simp; omega), if_pos (by simp; omega)]
        simp
      | succ i =>
        have := hnew i u j (by simpa using hi) hj
        rw [show m + (i + 1) = m + 1 + i by omega]; exact this
    · rw [hold k (by rw [Nat.add_mul]; omega), writeAll_get _ _ _ _ (by simp; omega), if_neg (by omega)]
/-- What a list of values holds, row by row. -/
theorem rows_of_cells {l : List PV} {vs : List Value} {sz : Nat} (hlen : l.length = vs.length) (h : ∀ (i : Nat) (p : PV) (v : Value), l[i]? = some p → vs[i]? = some v → Rep G p v)
    (hok : ∀ p ∈ l, p.okCells = true ∧ p.cells.length = sz) :
    (∀ v ∈ vs, v.cells.size = sz) ∧ RepR G (l.map PV.cells) (fun i j => ((vs[i]?).bind fun v => v.cells[j]?).getD undef) ∧ (∀ v ∈ vs, ∀ (j : Nat) (u : Value), v.cells[j]? = some u → u.oneCell' = true) ∧
    (∀ (i : Nat) (r : List PV), (l.map PV.cells)[i]? = some r → r.length = sz) := by
  have key : ∀ v ∈ vs, ∃ p, p ∈ l ∧ Rep G p v := fun v hv => by
    obtain ⟨i, hi⟩ := List.getElem?_of_mem hv
    have hlt : i < l.length := by rw [hlen]; exact (List.getElem?_eq_some_iff.1 hi).1
    exact ⟨l[i], List.getElem_mem hlt, h i _ v (List.getElem?_eq_getElem hlt) hi⟩
  refine ⟨fun v hv => ?_, fun i r hi j q hq => ?_, fun v hv j u hu => ?_, fun i r hi => ?_⟩
  · obtain ⟨p, hp, hr⟩ := key v hv
    rw [← (hr.cells (hok p hp).1).1]; exact (hok p hp).2
  · rw [List.getElem?_map] at hi
    simp only [Option.map_eq_some_iff] at hi
    obtain ⟨p, hp, rfl⟩ := hi
    have hlt : i < vs.length := by rw [← hlen]; exact (List.getElem?_eq_some_iff.1 hp).1
    have hr := h i p vs[i] hp (List.getElem?_eq_getElem hlt)
    obtain ⟨c1, c2, c3⟩ := hr.cells (hok p (List.mem_of_getElem? hp)).1
    have hj : j < vs[i].cells.size := by rw [← c1]; exact (List.getElem?_eq_some_iff.1 hq).1
    have := c2 j q vs[i].cells[j] hq (by simp [hj])
    simpa [hlt, hj] using this
  · obtain ⟨p, hp, hr⟩ := key v hv
    exact (hr.cells (hok p hp).1).2.2 j u hu
  · rw [List.getElem?_map] at hi
    simp only [Option.map_eq_some_iff] at hi
    obtain ⟨p, hp, rfl⟩ := hi
    exact (hok p (List.mem_of_getElem? hp)).2
theorem abuildX_sound (fz : Bool) (h : Rel G H w) {t : TypeId} {len : Nat} {parts : List (Nat × PV)} {vparts : List (Nat × Value)} {q : PV} {H' : AS} (hlen : parts.length = vparts.length)
    (hp : ∀ (i : Nat) (x : Nat × PV) (y : Nat × Value), parts[i]? = some x → vparts[i]? = some y → x.1 = y.1 ∧ Rep G x.2 y.2) (ha : abuildX fz P H t len parts = some (q, H')) :
    ∃ v w' G', (Instr.buildSlice t len vparts.toArray).run P w = .ok v w' ∧ G.le G' ∧ Rel G' H' w' ∧ Rep G' q v := by
  unfold abuildX at ha
  split at ha
  · rename_i elem hu
    split at ha
    · rename_i sz zs hsz hz
      split at ha
      · rename_i hc
        obtain ⟨hidx, hbig, hok⟩ := hc
        simp at ha
        obtain ⟨rfl, rfl⟩ := ha
        have hplen : parts.length = len := by have := congrArg List.length hidx; simpa using this
        have hvl : (vparts.map (·.2)).length = len := by simp [← hlen, hplen]
        have hvp : vparts = ((vparts.map (·.2)).zipIdx).map fun x => (x.2, x.1) := by
          apply List.ext_getElem?
          intro i
          by_cases hi : i < vparts.length
          · have hi' : i < parts.length := by omega
            have h1 := (hp i parts[i] vparts[i] (List.getElem?_eq_getElem hi') (List.getElem?_eq_getElem hi)).1
            have h2 : parts[i].1 = i := by
              have : (parts.map (·.1))[i]? = (List.range len)[i]? := by rw [hidx]
              rw [List.getElem?_map, List.getElem?_eq_getElem hi', List.getElem?_range (by omega)] at this
              simpa using this
            simp [hi]
            ext <;> simp
            omega
          · simp [hi]
        obtain ⟨d1, d2, d3, d4⟩ := rows_of_cells (G := G) (l := parts.map (·.2)) (vs := vparts.map (·.2)) (sz := sz) (by simp [hlen]) (fun i p v hi hv => by
            rw [List.getElem?_map] at hi hv
            simp only [Option.map_eq_some_iff] at hi hv
            obtain ⟨x, hx, rfl⟩ := hi
            obtain ⟨y, hy, rfl⟩ := hv
            exact (hp i x y hx hy).2) (fun p hp' => by
            obtain ⟨x, hx, rfl⟩ := List.mem_map.1 hp'
            exact hok x hx)
        rw [List.map_map] at d2 d4
        generalize vparts.map (·.2) = vs at hvl hvp d1 d2 d3
        obtain ⟨G1, le1, r1, n1, m1, p1⟩ : ∃ G', G.le G' ∧ Rel G' (fzR fz H (parts.map (PV.cells ∘ fun x : Nat × PV => x.2))).2 w ∧ (fzR fz H (parts.map (PV.cells ∘ fun x : Nat × PV => x.2))).1.length = (parts.map (PV.cells ∘ fun x : Nat × PV => x.2)).length ∧ (∀ (i : Nat) (r' : List PV), (fzR fz H (parts.map (PV.cells ∘ fun x : Nat × PV => x.2))).1[i]? = some r' → ∃ r, (parts.map (PV.cells ∘ fun x : Nat × PV => x.2))[i]? = some r ∧ r'.length = r.length) ∧ RepR G' (fzR fz H (parts.map (PV.cells ∘ fun x : Nat × PV => x.2))).1 _ := by
          unfold fzR
          cases fz with
          | true => exact frzR_sound _ h d2
          | false => exact ⟨G, .refl G, h, rfl, fun i r hi => ⟨r, hi, rfl⟩, d2⟩
        obtain ⟨z, hzr, _⟩ := runZero hz w
        obtain ⟨zero, hzero⟩ : ∃ zero : Array Value, zero = if len * sz = 0 then #[] else z.cells := ⟨_, rfl⟩
        obtain ⟨cells', hfill, hsize, hnew, _⟩ := fill_rows sz vs 0 ((Array.range (len * sz)).map (fun x => zero[x % zero.size]!)) d1 (by rw [hvl]; simp)
        rw [← hvp] at hfill
        have hcs : cells'.size = len * sz := by rw [hsize]; simp
        obtain ⟨hle, hrel, hview⟩ := r1.alloc (w' := { w with heap := w.heap.push (.cells cells' elem (0, 0)) }) (rows := (fzR fz H (parts.map (PV.cells ∘ fun x : Nat × PV => x.2))).1) (sz := sz) (cap := len) (vs := cells') (elem := elem) (fz := (0, 0)) rfl ⟨rfl, rfl, rfl⟩
          (.inl rfl) (by rw [hcs]; exact Nat.le_refl _) (by rw [n1]; simp [hplen]) (fun r hr => by
            obtain ⟨i, hi⟩ := List.getElem?_of_mem hr
            obtain ⟨r0, hr0, e⟩ := m1 i r hi
            rw [e]; exact d4 i r0 hr0) (fun i r j p hi hj => by
            obtain ⟨r0, hr0, e⟩ := m1 i r hi
            have hjl : j < sz := by rw [← d4 i r0 hr0, ← e]; exact (List.getElem?_eq_some_iff.1 hj).1
            have hil : i < vs.length := by
              have := (List.getElem?_eq_some_iff.1 hr0).1
              simp at this; simp; omega
            have hc := hnew i _ j (List.getElem?_eq_getElem hil) hjl
            rw [Nat.zero_add] at hc
            have hvsz := d1 _ (List.getElem_mem hil)
            have hvj : vs[i].cells[j]? = some (vs[i].cells[j]'(by rw [hvsz]; exact hjl)) := by simp [hvsz, hjl]
            refine ⟨_, hc.trans hvj, ?_⟩
            have := p1 i r hi j p hj
            simp only [List.getElem?_eq_getElem hil, Option.bind_some, hvj, Option.getD_some] at this
            exact this) (fun o v hv => by
            have ho : o < len * sz := by rw [← hcs]; exact (Array.getElem?_eq_some_iff.1 hv).1
            have hszpos : 0 < sz := Nat.pos_of_ne_zero fun e => by subst e; simp at ho
            have hil : o / sz < vs.length := by rw [hvl]; exact (Nat.div_lt_iff_lt_mul hszpos).2 ho
            have hc := hnew (o / sz) _ (o % sz) (List.getElem?_eq_getElem hil) (Nat.mod_lt _ hszpos)
            rw [Nat.zero_add, Nat.div_add_mod'] at hc
            rw [hc] at hv
            exact d3 _ (List.getElem_mem hil) _ v hv)
        have hn : (fzR fz H (parts.map (PV.cells ∘ fun x : Nat × PV => x.2))).1.length = len := by rw [n1]; simp [hplen]
        generalize G1.addView _ _ _ _ _ _ = G2 at hle hrel hview
        refine ⟨.slice (some ⟨w.heap.size, 0, none⟩) len len, _, G2, ?_, le1.trans hle, hrel, .msl (hn ▸ hview)⟩
        have hb' : ¬ (len * sz > 2 ^ 24) := by omega
        unfold Instr.buildSlice
        by_cases h0 : len * sz = 0
        · rw [if_pos h0] at hzero
          subst hzero
          simp only [Sem.run_bind, run_underlying hu, Result.andThen_ok, runSize hsz, hb', if_false]
          rw [if_pos h0]
          simp only [Sem.run_bind, Sem.run_pure, Result.andThen_ok]
          rw [hfill]
          simp [newRow]
        · rw [if_neg h0] at hzero
          subst hzero
          simp only [Sem.run_bind, run_underlying hu, Result.andThen_ok, runSize hsz, hb', if_false]
          rw [if_neg h0]
          simp only [Sem.run_bind, Sem.run_pure, Result.andThen_ok, hzr]
          rw [hfill]
          simp [newRow]
      · cases ha
    · cases ha
  · cases ha
end
/-- The rows that are appended. -/
def srcOf (H : AS) (sz : Nat) : PV → Option (List (List PV))
  | .val (.slice none 0 0) => some []
  | .slice _ _ [] => some []
  | .slice _ s (r :: rs) => if s = sz then some (r :: rs) else none
  | .msl id len s => if s = sz then (H.box id).bind fun rows => if rows.length = len then some rows else none else none
  | _ => none
@[simp] theorem srcOf_sl (H : AS) (c sz : Nat) (rows : List (List PV)) : srcOf H sz (PV.sl c sz rows) = some rows := by cases rows <;> simp [PV.sl, srcOf]
/-- A byte as a row. -/
def brow (b : UInt8) : List PV := [.val (.int .u8 (b.toNat : Int))]
/-- What is appended, by its type: a slice, or a text to bytes. -/
def srcOfT (H : AS) (sz : Nat) (d : TypeDesc) (y : PV) : Option (List (List PV)) := match d with
  | .slice _ => srcOf H sz y
  | .string => match y with
    | .val (.string s) => if sz = 1 then some (s.data.toList.map brow) else none
    | _ => none
  | _ => none
@[simp] theorem srcOfT_slice (H : AS) (sz : Nat) (e : TypeId) (y : PV) : srcOfT H sz (.slice e) y = srcOf H sz y := rfl
@[simp] theorem srcOfT_string (H : AS) (s : ByteArray) : srcOfT H 1 .string (.val (.string s)) = some (s.data.toList.map brow) := rfl
/-- A list may grow to n elements of so many bytes. -/
def appFits (n b : Nat) : Prop := n * b ≤ 2 ^ 47 ∨ b = 1 ∧ n ≤ 2 ^ 47 + 2 ^ 46
/-- append: what is asked, and what follows. -/
def aappendX (fz : Bool) (P : Program) (H : AS) (sT xT : TypeId) (x y : PV) (k : PV → AS → Prop) : Prop :=
  match P.underlying sT, P.underlying xT with
  | some (.slice elem), some xd => match szOf P elem, zeroOf P elem, bytesOf P elem with
    | some sz, some zs, some by_ =>
      (zs.length = sz ∧ zs.all PV.atomic = true ∧ 0 < by_) ∧
      match srcOfT H sz xd y with
      | some ys =>
        match x with
        | .val (.slice none 0 0) =>
          if ys.length = 0 then k .nil H
          else appFits ys.length by_ ∧ k (.msl (fzR fz H ys).2.next ys.length sz) (((fzR fz H ys).2.setBox (fzR fz H ys).2.next (fzR fz H ys).1).bump 1)
        | .msl id len s => match (fzR fz H ys).2.box id with
          | some rows => (rows.length = len ∧ s = sz ∧ appFits (len + ys.length) by_) ∧ k (.msl id (len + ys.length) sz) ((fzR fz H ys).2.setBox id (rows ++ (fzR fz H ys).1))
          | none => False
        | _ => False
      | none => False
    | _, _, _ => False
  | _, _ => False
def aappend (P : Program) (H : AS) (sT xT : TypeId) (x y : PV) (k : PV → AS → Prop) : Prop := aappendX true P H sT xT x y k ∨ aappendX false P H sT xT x y k
section
variable {P : Program} {G : Gh} {H : AS} {w : World}
/-- What is known of a source. -/
def SrcOk (P : Program) (G : Gh) (w : World) (sz : Nat) (ys : List (List PV)) (v : Value) : Prop :=
    ∃ (vals : Nat → Nat → Value) (arr : Array Value), (∀ W, (Builtin.lenOf v).run P W = .ok ys.length W) ∧ RepR G ys vals ∧ (∀ n, (Builtin.firstCells sz ys.length v).run P { w with drawn := n } = .ok arr { w with drawn := n }) ∧ arr.size = ys.length * sz ∧
      (∀ i j, i < ys.length → j < sz → arr[i * sz + j]? = some (vals i j)) ∧ (∀ (o : Nat) (u : Value), arr[o]? = some u → u.oneCell' = true) ∧ (∀ r ∈ ys, r.length = sz)
/-- The cells of a source. -/
theorem src_cells (h : Rel G H w) {sz : Nat} {y : PV} {v : Value} {ys : List (List PV)} (hy : Rep G y v) (hs : srcOf H sz y = some ys) : SrcOk P G w sz ys v := by
  -- a read of a stretch of rows
  have key : ∀ (b o : Nat) (vals : Nat → Nat → Value), (∀ (i : Nat) (r : List PV), ys[i]? = some r → r.length = sz) →
      (∀ (i : Nat) (r : List PV) (j : Nat) (p : PV), ys[i]? = some r → r[j]? = some p → w.cell? ⟨b, o + (i * sz + j), none⟩ = some (vals i j) ∧ (vals i j).oneCell' = true ∧ Rep G p (vals i j)) →
      ∃ arr : Array Value, RepR G ys vals ∧ (∀ n, (loadCells ⟨b, o, none⟩ (ys.length * sz)).run P { w with drawn := n } = .ok arr { w with drawn := n }) ∧ arr.size = ys.length * sz ∧
      (∀ i j, i < ys.length → j < sz → arr[i * sz + j]? = some (vals i j)) ∧ (∀ (o : Nat) (u : Value), arr[o]? = some u → u.oneCell' = true) ∧ (∀ r ∈ ys, r.length = sz) := by
    intro b o vals hlen hc
    have at_ : ∀ k, k < ys.length * sz → ∃ i j, k = i * sz + j ∧ i < ys.length ∧ j < sz ∧ i = k / sz ∧ j = k % sz := by
      intro k hk
      have hpos : 0 < sz := Nat.pos_of_ne_zero fun e => by subst e; simp at hk
      exact ⟨k / sz, k % sz, (Nat.div_add_mod' k sz).symm, (Nat.div_lt_iff_lt_mul hpos).2 hk, Nat.mod_lt _ hpos, rfl, rfl⟩
    have cellof : ∀ i j, i < ys.length → j < sz → ∃ p, (ys[i]?).bind (·[j]?) = some p ∧ w.cell? ⟨b, o + (i * sz + j), none⟩ = some (vals i j) ∧ (vals i j).oneCell' = true ∧ Rep G p (vals i j) := by
      intro i j hi hj
      have hr := hlen i _ (List.getElem?_eq_getElem hi)
      have hj' : j < ys[i].length := by omega
      exact ⟨ys[i][j], by simp [hi, hj'], hc i _ j _ (List.getElem?_eq_getElem hi) (List.getElem?_eq_getElem hj')⟩
    have hdm : ∀ i j, j < sz → (i * sz + j) / sz = i ∧ (i * sz + j) % sz = j := by
      intro i j hj
      have hpos : 0 < sz := by omega
      constructor
      · rw [Nat.mul_comm, Nat.mul_add_div hpos, Nat.div_eq_of_lt hj]; rfl
      · rw [Nat.mul_comm, Nat.mul_add_mod]; exact Nat.mod_eq_of_lt hj
    have hload := fun n => run_loadCells (P := P) { w with drawn := n } ⟨b, o, none⟩ (ys.length * sz) (fun k => vals (k / sz) (k % sz)) (fun k hk => by
      obtain ⟨i, j, rfl, hi, hj, e1, e2⟩ := at_ k hk
      obtain ⟨p, _, h1, _⟩ := cellof i j hi hj
      rw [addr_add, ← e1, ← e2]; exact h1 : _)
    refine ⟨_, fun i r hr j p hp => (hc i r j p hr hp).2.2, hload, by simp, fun i j hi hj => ?_, fun k u hu => ?_, fun r hr => ?_⟩
    · have hk : i * sz + j < ys.length * sz := by
        have : (i + 1) * sz ≤ ys.length * sz := Nat.mul_le_mul_right sz hi
        rw [Nat.add_mul, Nat.one_mul] at this; omega
      obtain ⟨d1, d2⟩ := hdm i j hj
      simp [hk, d1, d2]
    · have hk : k < ys.length * sz := by have := (Array.getElem?_eq_some_iff.1 hu).1; simpa using this
      obtain ⟨i, j, rfl, hi, hj, e1, e2⟩ := at_ k hk
      obtain ⟨p, _, _, h2, _⟩ := cellof i j hi hj
      simp [hk] at hu
      rw [Nat.mod_eq_of_lt hj] at hu
      rw [← hu, ← e1]; exact h2
    · obtain ⟨i, hi⟩ := List.getElem?_of_mem hr
      exact hlen i r hi
  have empty : ∀ (a : Option Addr) (cap : Nat), ys = [] → v = .slice a 0 cap → SrcOk P G w sz ys v := by
    intro a cap e e'
    subst e
    exact ⟨fun _ _ => undef, #[], fun W => by subst e'; rfl, fun i r hr => by simp at hr, by subst e'; cases a <;> simp [Builtin.firstCells, loadCells, loadCellsFrom], by simp, fun i j hi => by simp at hi, fun o u hu => by simp at hu, fun r hr => by simp at hr⟩
  unfold srcOf at hs
  split at hs
  · simp at hs; cases hy; exact empty none 0 hs rfl
  · simp at hs
    cases hy with
    | slice vs hx h0 h1 h2 h3 h4 => exact empty _ _ hs rfl
    | nilSlice => exact empty none 0 hs rfl
    | emptySlice => exact empty _ _ hs rfl
  · rename_i c s r rs
    split at hs
    · rename_i e; subst e
      simp at hs
      cases hy with
      | slice vs hx h0 h1 h2 h3 h4 =>
        rename_i b o cap
        rw [hs] at h0 h1 h2 h3 h4
        obtain ⟨arr, g1, g2, g3⟩ := key b o vs h1 (fun i r j p hi hj => ⟨by rw [← Nat.add_assoc]; exact h.cell (h2 i r j p hi hj), h3 i r j p hi hj, h4 i r j p hi hj⟩)
        exact ⟨vs, arr, fun W => by rw [← hs]; rfl, g1, by simpa [Builtin.firstCells] using g2, g3⟩
    · cases hs
  · rename_i id len s
    split at hs
    · rename_i e; subst e
      simp only [Option.bind_eq_some_iff] at hs
      obtain ⟨rows, hb, hs⟩ := hs
      split at hs
      · rename_i hlen
        simp at hs; subst hs
        cases hy with
        | msl hv =>
          rename_i b cap
          obtain ⟨b', s', cap', vs, elem, fz, hv', hh, hfz, hcap, hlencap, hrows, hcells, h1c, hro⟩ := h.box id rows hb
          rw [hlen, hv] at hv'
          obtain ⟨rfl, rfl, rfl⟩ : b = b' ∧ s = s' ∧ cap = cap' := by simpa using hv'
          obtain ⟨arr, g1, g2, g3⟩ := key b 0 (fun i j => (vs[i * s + j]?).getD undef) (fun i r hi => hrows r (List.mem_of_getElem? hi)) (fun i r j p hi hj => by
            obtain ⟨u, e, hr⟩ := hcells i r j p hi hj
            refine ⟨by rw [Nat.zero_add, cell_of_block hh, e]; rfl, by rw [e]; exact h1c _ _ e, by rw [e]; exact hr⟩)
          exact ⟨_, arr, fun W => by rw [← hlen]; rfl, g1, by simpa [Builtin.firstCells] using g2, g3⟩
      · cases hs
    · cases hs
  · cases hs
theorem src_cellsT (h : Rel G H w) {sz : Nat} {d : TypeDesc} {y : PV} {v : Value} {ys : List (List PV)} (hy : Rep G y v) (hs : srcOfT H sz d y = some ys) : SrcOk P G w sz ys v := by
  unfold srcOfT at hs
  split at hs
  · exact src_cells h hy hs
  · split at hs
    · rename_i s
      split at hs
      · rename_i e; subst e
        simp at hs; subst hs
        cases hy
        have hsz : (s.data.toList.map brow).length = s.size := by simp
        refine ⟨fun i _ => .int .u8 ((s.data[i]?).getD 0).toNat, s.data.map fun b => .int .u8 b.toNat, fun W => by rw [hsz]; rfl, fun i r hr j p hp => ?_, fun n => ?_, ?_, fun i j hi hj => ?_, fun o u hu => ?_, fun r hr => ?_⟩
        · rw [List.getElem?_map] at hr
          simp only [Option.map_eq_some_iff] at hr
          obtain ⟨b, hb, rfl⟩ := hr
          cases j with
          | zero =>
            simp [brow] at hp; subst hp
            have hb' : s.data[i]? = some b := by simpa using hb
            show Rep G _ (.int .u8 ((s.data[i]?).getD 0).toNat)
            rw [hb']; exact .val _
          | succ j => simp [brow] at hp
        · rw [hsz]
          simp [Builtin.firstCells]
        · simp
        · have hi' : i < s.data.size := by simpa using hi
          have : j = 0 := by omega
          subst this
          simp
          exact ⟨s.data[i], Array.getElem?_eq_getElem hi', by rw [Array.getElem?_eq_getElem hi']; rfl⟩
        · simp only [Array.getElem?_map, Option.map_eq_some_iff] at hu
          obtain ⟨b, _, rfl⟩ := hu
          rfl
        · obtain ⟨b, _, rfl⟩ := List.mem_map.1 hr
          rfl
      · cases hs
    · cases hs
  · cases hs
/-- A live box gets more rows, where it lies or over a new block. -/
theorem Rel.regrow (h : Rel G H w) {id : Nat} {rows rows' : List (List PV)} (hb : H.box id = some rows) (hl : rows.length < rows'.length) {w' : World} {b' sz cap b0 s0 c0 : Nat} {vs : Array Value} {elem : TypeId} {fz : Nat × Nat}
    (hv0 : G.view id rows.length = some (b0, s0, c0)) (hb' : b' = b0 ∨ b' = w.heap.size) (hw : ∀ (b : Nat) (o : Obj), b ≠ b' → w.heap[b]? = some o → w'.heap[b]? = some o) (hnew : w'.heap[b']? = some (.cells vs elem fz))
    (hrest : w'.os = w.os ∧ w'.output = w.output ∧ w'.tape = w.tape) (hfz : FzOk vs.size fz) (hcap : cap * sz ≤ vs.size) (hlen : rows'.length ≤ cap) (hrows : ∀ r ∈ rows', r.length = sz)
    (hc : ∀ (i : Nat) (r : List PV) (j : Nat) (p : PV), rows'[i]? = some r → r[j]? = some p → ∃ v, vs[i * sz + j]? = some v ∧ Rep G p v) (h1c : ∀ (o : Nat) (v : Value), vs[o]? = some v → v.oneCell' = true) :
    ∃ G', G.le G' ∧ Rel G' (H.setBox id rows') w' ∧ G'.view id rows'.length = some (b', sz, cap) := by
  obtain ⟨b1, s1, c1, vs0, e0, f0, hv1, hh0, _, _, _, _, _, _, hro0⟩ := h.box id rows hb
  rw [hv0] at hv1
  obtain ⟨rfl, rfl, rfl⟩ : b0 = b1 ∧ s0 = s1 ∧ c0 = c1 := by simpa using hv1
  have hnone : G.view id rows'.length = none := by
    cases e : G.view id rows'.length with
    | none => rfl
    | some x => have := h.vmax id rows _ x hb e; omega
  let G' := G.addView id rows'.length b' sz cap G.next
  have hle : G.le G' := Gh.le_addView hnone (Nat.le_refl _)
  have hvG' : G'.view id rows'.length = some (b', sz, cap) := by simp [G', Gh.addView]
  have hvne : ∀ i l, i ≠ id → G'.view i l = G.view i l := fun i l hi => by simp [G', Gh.addView, hi]
  have hrob : G.ro b' = none := by
    rcases hb' with e | e
    · rw [e]; exact hro0
    · cases er : G.ro b' with
      | none => rfl
      | some x => obtain ⟨c, o⟩ := x; have := (Array.getElem?_eq_some_iff.1 (h.ro _ _ _ er)).1; omega
  have hother : ∀ i ri b s c, i ≠ id → H.box i = some ri → G.view i ri.length = some (b, s, c) → b ≠ b' := by
    intro i ri b s c hi hbi hvi e
    rcases hb' with e' | e'
    · rw [e, e'] at hvi; exact hi (h.inj i id ri rows b0 s c s0 c0 hbi hb hvi hv0)
    · have := h.lt hbi hvi; omega
  refine ⟨G', hle, ⟨h.next, fun b c o e => ?_, fun i r hi => ?_, fun i j ri rj b s c s' c' hi hj e1 e2 => ?_, fun i es hi => ?_, h.minj, fun i r vl x hi hv => ?_, fun i l x e => ?_, h.mdom, by rw [hrest.1]; exact h.os, by rw [hrest.2.1]; exact h.out, by rw [hrest.2.2]; exact h.tape, h.base.mono hle, ⟨h.exok.all, h.exok.ro⟩⟩, hvG'⟩
  · refine hw b o (fun e' => ?_) (h.ro _ _ _ e)
    subst e'; rw [show G'.ro b = G.ro b from rfl, hrob] at e; cases e
  · simp only [setBox_box] at hi
    split at hi
    · rename_i hid; subst hid; cases hi
      exact ⟨b', sz, cap, vs, elem, fz, hvG', hnew, hfz, hcap, hlen, hrows, RowsAt.mono (f := fun k => vs[k]?) hle hc, h1c, hrob⟩
    · rename_i hid
      obtain ⟨b, s, c, vs', el, f, hv, hh, h1, h2, h3, h4, h5, h6, h7⟩ := h.box i r hi
      exact ⟨b, s, c, vs', el, f, by rw [hvne _ _ hid]; exact hv, hw _ _ (hother i r b s c hid hi hv) hh, h1, h2, h3, h4, RowsAt.mono (f := fun k => vs'[k]?) hle h5, h6, h7⟩
  · simp only [setBox_box] at hi hj
    by_cases h1 : i = id
    · by_cases h2 : j = id
      · omega
      · rw [if_pos h1] at hi; rw [if_neg h2] at hj; cases hi
        subst h1
        rw [hvG'] at e1
        rw [hvne _ _ h2] at e2
        exact absurd (by simpa using e1 : b' = b ∧ _).1 (fun e => hother j rj b s' c' h2 hj e2 e.symm)
    · rw [if_neg h1] at hi
      rw [hvne _ _ h1] at e1
      by_cases h2 : j = id
      · rw [if_pos h2] at hj; cases hj
        subst h2
        rw [hvG'] at e2
        exact absurd (by simpa using e2 : b' = b ∧ _).1 (fun e => hother i ri b s c h1 hi e1 e.symm)
      · rw [if_neg h2] at hj
        rw [hvne _ _ h2] at e2
        exact h.inj i j ri rj b s c s' c' hi hj e1 e2
  · obtain ⟨b, ents, clock, hv, hh, g1, g2, g3⟩ := h.mp i es hi
    refine ⟨b, ents, clock, hv, hw _ _ (fun e => ?_) hh, g1, fun i e m hi hj => ⟨(g2 i e m hi hj).1, (g2 i e m hi hj).2.mono hle⟩, g3⟩
    subst e
    rcases hb' with e | e
    · rw [e, hh0] at hh; cases hh
    · have := (Array.getElem?_eq_some_iff.1 hh).1; omega
  · simp only [setBox_box] at hi
    by_cases hid : i = id
    · subst hid
      rw [if_pos rfl] at hi; cases hi
      by_cases e : vl = rows'.length
      · omega
      · have e' : G'.view i vl = G.view i vl := by simp [G', Gh.addView, e]
        rw [e'] at hv
        have := h.vmax _ _ _ _ hb hv; omega
    · rw [if_neg hid] at hi
      rw [hvne _ _ hid] at hv
      exact h.vmax _ _ _ _ hi hv
  · by_cases hid : i = id
    · subst hid; exact h.dom _ _ _ hv0
    · rw [hvne _ _ hid] at e; exact h.dom _ _ _ e
theorem growBy_le (n : Nat) (hn : 256 ≤ n) : ∀ (rounds c : Nat), c ≤ 2 * n → Builtin.growBy n rounds c ≤ 2 * n
  | 0, c, h => h
  | rounds + 1, c, h => by
    unfold Builtin.growBy
    split
    · exact h
    · exact growBy_le n hn rounds _ (by omega)
theorem nextslicecap_le {need old : Nat} (h : old < need) : Builtin.nextslicecap need old ≤ 2 * need := by
  unfold Builtin.nextslicecap
  split
  · omega
  · split
    · omega
    · exact growBy_le need (by omega) 4 old (by omega)
theorem growBy_le' (n : Nat) : ∀ (rounds c : Nat), c ≤ n + n / 4 + 192 → Builtin.growBy n rounds c ≤ n + n / 4 + 192
  | 0, c, h => h
  | rounds + 1, c, h => by
    unfold Builtin.growBy
    split
    · exact h
    · exact growBy_le' n rounds _ (by omega)
theorem nextslicecap_le' {need old : Nat} (h : old < need) : Builtin.nextslicecap need old ≤ need + need / 4 + 192 := by
  unfold Builtin.nextslicecap
  split
  · omega
  · split
    · omega
    · exact growBy_le' need 4 old (by omega)
theorem zeroCells_get (zero : Array Value) (n : Nat) : (Builtin.zeroCells zero n).size = n * zero.size ∧ ∀ (o : Nat) (u : Value), (Builtin.zeroCells zero n)[o]? = some u → ∃ i : Nat, zero[i]? = some u := by
  refine ⟨by simp [Builtin.zeroCells], fun o u hu => ?_⟩
  have ho : o < n * zero.size := by have := (Array.getElem?_eq_some_iff.1 hu).1; simpa [Builtin.zeroCells] using this
  have hpos : 0 < zero.size := Nat.pos_of_ne_zero fun e => by rw [e] at ho; simp at ho
  have hlt : o % zero.size < zero.size := Nat.mod_lt _ hpos
  simp [Builtin.zeroCells, ho, hlt] at hu
  exact ⟨o % zero.size, by simp [hlt, hu]⟩
theorem fzR_sound (fz : Bool) (l : List (List PV)) (h : Rel G H w) {vs : Nat → Nat → Value} (hl : RepR G l vs) :
    ∃ G', G.le G' ∧ Rel G' (fzR fz H l).2 w ∧ (fzR fz H l).1.length = l.length ∧ (∀ (i : Nat) (r : List PV), (fzR fz H l).1[i]? = some r → ∃ r0, l[i]? = some r0 ∧ r.length = r0.length) ∧ RepR G' (fzR fz H l).1 vs := by
  cases fz
  · exact ⟨G, .refl G, h, rfl, fun i r hr => ⟨r, hr, rfl⟩, hl⟩
  · exact frzR_sound l h hl
theorem aappendX_sound (fq : Bool) (h : Rel G H w) {sT xT ty : TypeId} {x y : PV} {u v : Value} {k : PV → AS → Prop} (hx : Rep G x u) (hy : Rep G y v) (ha : aappendX fq P H sT xT x y k) :
    ∃ r w' G' q H', (Builtin.append_ #[sT, xT] ty #[u, v]).run P w = .ok r w' ∧ G.le G' ∧ Rel G' H' w' ∧ Rep G' q r ∧ k q H' := by
  unfold aappendX at ha
  split at ha
  case h_2 => exact ha.elim
  rename_i elem xd hu hxT
  split at ha
  case h_2 => exact ha.elim
  rename_i sz zs by_ hsz hz hby
  obtain ⟨⟨hzl, hzat, hbpos⟩, ha⟩ := ha
  split at ha
  case h_2 => exact ha.elim
  rename_i ys hs
  have hxd : ∀ k, xd ≠ .int k := fun k e => by subst e; simp [srcOfT] at hs
  obtain ⟨vals, arr, hlen, hrep, hfirst', harr, hget, hone, hrow⟩ := src_cellsT (P := P) h hy hs
  have hfirst : (Builtin.firstCells sz ys.length v).run P w = .ok arr w := hfirst' w.drawn
  have hnz : (match xd with | .int _ => true | _ => false) = false := by cases xd <;> first | rfl | exact absurd rfl (hxd _)
  obtain ⟨z, hzr, rfl⟩ := runZero hz w
  obtain ⟨ti, hti, rfl⟩ := runBytes hby w
  have hzsz : z.cells.size = sz := by simpa using hzl
  have hzone : ∀ (o : Nat) (u : Value), z.cells[o]? = some u → u.oneCell' = true := fun o u hu => by
    rw [List.all_eq_true] at hzat
    exact atomic_val (hzat (.val u) (List.mem_map.2 ⟨u, by simpa using Array.mem_of_getElem? hu, rfl⟩))
  obtain ⟨G1, le1, r1, n1, m1, p1⟩ := fzR_sound fq ys h hrep
  have hrow1 : ∀ r ∈ (fzR fq H ys).1, r.length = sz := fun r hr => by
    obtain ⟨i, hi⟩ := List.getElem?_of_mem hr
    obtain ⟨r0, h0, e⟩ := m1 i r hi
    rw [e]; exact hrow r0 (List.mem_of_getElem? h0)
  -- in place
  have place : ∀ (base : Option Addr) (sLen sCap : Nat) (w' : World), sLen + ys.length ≤ sCap → (∀ a, base = some a → (storeCells (a.add (sLen * sz)) arr.toList).run P w = .ok () w') → (base = none → w' = w) →
      (Builtin.append_ #[sT, xT] ty #[.slice base sLen sCap, v]).run P w = .ok (.slice base (sLen + ys.length) sCap) w' := by
    intro base sLen sCap w' hle hst hnone
    unfold Builtin.append_
    simp only [List.getElem?_toArray, List.getElem?_cons_zero, List.getElem?_cons_succ, Sem.run_bind, run_underlying hu, run_underlying hxT, Result.andThen_ok, runSize hsz, Sem.run_pure, hnz, Bool.false_eq_true, if_false, hlen, hle, if_true, Bool.not_false, hfirst]
    cases base with
    | none => simp [hnone rfl]
    | some b => simp [hst b rfl]
  -- growing
  have grow : ∀ (base : Option Addr) (sLen sCap : Nat) (old : Array Value), ¬ (sLen + ys.length ≤ sCap) → appFits (sLen + ys.length) ti.bytes →
      (∀ n, (Builtin.firstCells sz sLen (.slice base sLen sCap)).run P { w with drawn := n } = .ok old { w with drawn := n }) →
      ∃ newCap n, sLen + ys.length ≤ newCap ∧ (Builtin.append_ #[sT, xT] ty #[.slice base sLen sCap, v]).run P w =
        .ok (.slice (some ⟨w.heap.size, 0, none⟩) (sLen + ys.length) newCap) { w with heap := w.heap.push (.cells (old ++ arr ++ Builtin.zeroCells z.cells (newCap - (sLen + ys.length))) elem (0, 0)), drawn := n } := by
    intro base sLen sCap old hgt hbound hold
    have hns : Builtin.nextslicecap (sLen + ys.length) sCap * ti.bytes ≤ 2 ^ 48 := by
      rcases hbound with hbound | ⟨h1, hbound⟩
      · have := nextslicecap_le (need := sLen + ys.length) (old := sCap) (by omega)
        have h2 := Nat.mul_le_mul_right ti.bytes this
        rw [Nat.mul_assoc] at h2
        omega
      · have := nextslicecap_le' (need := sLen + ys.length) (old := sCap) (by omega)
        rw [h1]; omega
    have hz0 : ti.bytes ≠ 0 := by omega
    have hmax : ¬ (((sLen + ys.length : Nat) : Int) > IntKind.i64.max ∧ (False ∨ ti.bytes = 0)) := by simp [hz0]
    obtain ⟨newCap, hnc, hch⟩ : ∃ newCap, sLen + ys.length ≤ newCap ∧ (choose (.appendCap (sLen + ys.length) sCap elem)).run P w = .ok newCap { w with drawn := w.drawn + 1 } := by
      refine ⟨(Question.appendCap (sLen + ys.length) sCap elem).cut (w.tape w.drawn (.appendCap (sLen + ys.length) sCap elem)), ?_, by simp [Question.forced]⟩
      simp [Question.cut]
    have hti' : ∀ n, (typeInfo elem).run P { w with drawn := n } = .ok ti { w with drawn := n } := fun n => by
      unfold typeInfo at hti ⊢
      cases hi : P.info? elem with
      | none => simp [hi] at hti
      | some i => simp [hi] at hti ⊢; exact hti
    have hz' : ∀ n, (zeroValue elem).run P { w with drawn := n } = .ok z { w with drawn := n } := fun n => by
      obtain ⟨z', e1, e2⟩ := runZero hz { w with drawn := n }
      unfold zeroValue at hzr e1 ⊢
      simp only [Sem.run_bind, hti, hti', Result.andThen_ok] at hzr e1 ⊢
      cases hzz : ti.zero with
      | none => simp [hzz] at hzr
      | some q => simp [hzz] at hzr ⊢; exact hzr
    refine ⟨newCap, w.drawn + 1, hnc, ?_⟩
    unfold Builtin.append_
    simp only [List.getElem?_toArray, List.getElem?_cons_zero, List.getElem?_cons_succ, Sem.run_bind, run_underlying hu, run_underlying hxT, Result.andThen_ok, runSize hsz, Sem.run_pure, hnz, Bool.false_eq_true, if_false, hlen, hgt, Bool.not_false, if_true, hti, hmax, gt_iff_lt, Nat.not_lt.2 hns, hch, run_askRoom, hti', hold, hfirst', hz']
    simp only [newRow, Sem.run_bind, run_newObj, Result.andThen_ok, Sem.run_pure]
  -- what a grown row holds
  have cellsOf : ∀ (old : Array Value) (rows : List (List PV)) (m : Nat), old.size = rows.length * sz → (∀ r ∈ rows, r.length = sz) → (∀ (i : Nat) (r : List PV) (j : Nat) (p : PV), rows[i]? = some r → r[j]? = some p → ∃ v, old[i * sz + j]? = some v ∧ Rep G1 p v) →
      ∀ (rest : Array Value) (i : Nat) (r : List PV) (j : Nat) (p : PV), (rows ++ (fzR fq H ys).1)[i]? = some r → r[j]? = some p → ∃ v, (old ++ arr ++ rest)[i * sz + j]? = some v ∧ Rep G1 p v := by
    intro old rows m hos hrs hold rest i r j p hi hj
    by_cases hlt : i < rows.length
    · rw [List.getElem?_append_left hlt] at hi
      obtain ⟨v, e, hr⟩ := hold i r j p hi hj
      refine ⟨v, ?_, hr⟩
      have := (Array.getElem?_eq_some_iff.1 e).1
      rw [Array.getElem?_append_left (by simp; omega), Array.getElem?_append_left this]; exact e
    · rw [List.getElem?_append_right (by omega)] at hi
      have hil : i - rows.length < ys.length := by rw [← n1]; exact (List.getElem?_eq_some_iff.1 hi).1
      have hjl : j < sz := by rw [← hrow1 r (List.mem_of_getElem? hi)]; exact (List.getElem?_eq_some_iff.1 hj).1
      have hg := hget (i - rows.length) j hil hjl
      have hk : (i - rows.length) * sz + j < arr.size := (Array.getElem?_eq_some_iff.1 hg).1
      have he : i * sz + j = old.size + ((i - rows.length) * sz + j) := by
        rw [hos, ← Nat.add_assoc, ← Nat.add_mul]; congr 2; omega
      refine ⟨_, ?_, p1 (i - rows.length) r hi j p hj⟩
      rw [he, Array.getElem?_append_left (by simp; omega), Array.getElem?_append_right (by omega)]
      rw [show old.size + ((i - rows.length) * sz + j) - old.size = (i - rows.length) * sz + j by omega]; exact hg
  have oneOf : ∀ (old : Array Value) (m : Nat), (∀ (o : Nat) (u : Value), old[o]? = some u → u.oneCell' = true) → ∀ (o : Nat) (u : Value), (old ++ arr ++ Builtin.zeroCells z.cells m)[o]? = some u → u.oneCell' = true := by
    intro old m hold o u hu
    rw [Array.getElem?_append] at hu
    split at hu
    · rw [Array.getElem?_append] at hu
      split at hu
      · exact hold _ _ hu
      · exact hone _ _ hu
    · obtain ⟨i, hi⟩ := (zeroCells_get z.cells m).2 _ _ hu
      exact hzone _ _ hi
  split at ha
  · -- nil
    cases hx
    split at ha
    · rename_i h0
      refine ⟨_, w, G, _, H, place none 0 0 w (by omega) (fun a e => by cases e) (fun _ => rfl), .refl G, h, ?_, ha⟩
      rw [h0]; exact .val _
    · rename_i h0
      obtain ⟨hbound, ha⟩ := ha
      obtain ⟨newCap, n, hnc, hrun⟩ := grow none 0 0 #[] (by omega) (by simpa using hbound) (fun n => rfl)
      simp only [Nat.zero_add] at hrun hnc
      obtain ⟨hle, hrel, hview⟩ := r1.alloc (w' := { w with heap := w.heap.push (.cells (#[] ++ arr ++ Builtin.zeroCells z.cells (newCap - ys.length)) elem (0, 0)), drawn := n }) (rows := (fzR fq H ys).1) (sz := sz) (cap := newCap) rfl ⟨rfl, rfl, rfl⟩
        (.inl rfl) (by
          have := (zeroCells_get z.cells (newCap - ys.length)).1
          simp [this, harr, hzsz, ← Nat.add_mul]
          exact Nat.mul_le_mul_right sz (by omega)) (by rw [n1]; exact hnc) hrow1 (by
          have := cellsOf #[] [] 0 (by simp) (by simp) (by simp) (Builtin.zeroCells z.cells (newCap - ys.length))
          simpa using this) (oneOf #[] _ (by simp))
      generalize G1.addView _ _ _ _ _ _ = G2 at hle hrel hview
      exact ⟨_, _, G2, _, _, hrun, le1.trans hle, hrel, .msl (n1 ▸ hview), ha⟩
  · rename_i id len s
    split at ha
    case h_2 => exact ha.elim
    rename_i rows hb
    obtain ⟨⟨hlenr, rfl, hbound⟩, ha⟩ := ha
    cases hx with
    | msl hv =>
      rename_i b cap0
      have hv1 := le1.view _ _ _ hv
      obtain ⟨b', s', cap', vs, el, fz, hv', hh, hfz, hcap, hlencap, hrows, hcells, h1c, hro⟩ := r1.box id rows hb
      have hv'' := hv'
      rw [hlenr, hv1] at hv'
      obtain ⟨rfl, rfl, rfl⟩ : b = b' ∧ s = s' ∧ cap0 = cap' := by simpa using hv'
      by_cases hn : ys.length = 0
      · -- nothing is appended
        have hnil : (fzR fq H ys).1 = [] := List.length_eq_zero_iff.1 (by rw [n1]; exact hn)
        have harr0 : arr.toList = [] := by
          have : arr.size = 0 := by rw [harr, hn]; simp
          simpa using this
        refine ⟨_, w, G1, _, _, place (some ⟨b, 0, none⟩) len cap0 w (by rw [← hlenr, hn]; omega) (fun a e => by rw [harr0]; rfl) (fun e => by cases e), le1, ?_, .msl (by rw [hn]; exact hv1), ha⟩
        rw [hnil, List.append_nil]
        exact r1.write hb rfl (r1.box id rows hb) hv'' (fun _ _ => rfl) ⟨rfl, rfl, rfl⟩ hro ⟨vs, el, fz, hh⟩
      · by_cases hfit : len + ys.length ≤ cap0
        · -- in place
          have hend : len * s + ys.length * s ≤ vs.size := by
            rw [← Nat.add_mul]; exact Nat.le_trans (Nat.mul_le_mul_right s hfit) hcap
          have hrun := run_storeCells_cells (P := P) b (len * s) arr.toList 0 w (fun j hj => by
              simp at hj
              rw [cell_of_block hh]
              have : len * s + j < vs.size := by omega
              simp [this]) (fun j hj => by
              simp at hj
              simp only [World.frozen?, hh]
              have := hfz.not (len * s + 0 + j) (by omega)
              simpa using this) (fun u hu => by
              obtain ⟨j, hj⟩ := List.getElem?_of_mem hu
              exact hone j u (by simpa using hj))
          simp only [Nat.add_zero] at hrun
          have hrest := setCells_rest b arr.toList w (len * s)
          obtain ⟨G2, le2, r2, v2⟩ := r1.regrow hb (rows' := rows ++ (fzR fq H ys).1) (by simp [n1]; omega) (b' := b) (sz := s) (cap := cap0) hv'' (.inl rfl) (fun x o hx e => by rw [setCells_heap_ne b x hx]; exact e)
            (setCells_heap b _ w _ vs el fz hh) hrest (by rw [writeAll_size]; exact hfz) (by rw [writeAll_size]; exact hcap) (by simp [n1, hlenr]; exact hfit) (fun r hr => by
              rcases List.mem_append.1 hr with hr | hr
              · exact hrows r hr
              · exact hrow1 r hr) (fun i r j p hi hj => by
              rw [writeAll_get _ _ _ _ (by simp; omega)]
              have hjl : j < s := by
                have hl : r.length = s := by
                  rcases List.mem_append.1 (List.mem_of_getElem? hi) with hr | hr
                  · exact hrows r hr
                  · exact hrow1 r hr
                rw [← hl]; exact (List.getElem?_eq_some_iff.1 hj).1
              by_cases hlt : i < rows.length
              · rw [List.getElem?_append_left hlt] at hi
                have : i * s + j < len * s := by
                  have := Nat.mul_le_mul_right s (show i + 1 ≤ len by omega)
                  rw [Nat.add_mul, Nat.one_mul] at this; omega
                rw [if_neg (by omega)]
                exact hcells i r j p hi hj
              · rw [List.getElem?_append_right (by omega)] at hi
                have hil : i - rows.length < ys.length := by rw [← n1]; exact (List.getElem?_eq_some_iff.1 hi).1
                have hg := hget (i - rows.length) j hil hjl
                have hk : (i - rows.length) * s + j < arr.size := (Array.getElem?_eq_some_iff.1 hg).1
                have he : i * s + j = len * s + ((i - rows.length) * s + j) := by
                  rw [← Nat.add_assoc, ← Nat.add_mul]; congr 2; omega
                rw [if_pos (by simp; omega), he, show len * s + ((i - rows.length) * s + j) - len * s = (i - rows.length) * s + j by omega]
                exact ⟨_, by simpa using hg, p1 (i - rows.length) r hi j p hj⟩) (fun o u hu => by
              rw [writeAll_get _ _ _ _ (by simp; omega)] at hu
              split at hu
              · exact hone _ u (by simpa using hu)
              · exact h1c _ _ hu)
          refine ⟨_, _, G2, _, _, place (some ⟨b, 0, none⟩) len cap0 _ hfit (fun a e => by cases e; rw [addr_add, Nat.zero_add]; exact hrun) (fun e => by cases e), le1.trans le2, r2, ?_, ha⟩
          have hl : (rows ++ (fzR fq H ys).1).length = len + ys.length := by simp [n1, hlenr]
          exact .msl (hl ▸ v2)
        · -- over a new block
          have hold : ∀ n, (Builtin.firstCells s len (.slice (some ⟨b, 0, none⟩) len cap0)).run P { w with drawn := n } = .ok (vs.toList.take (len * s)).toArray { w with drawn := n } := fun n => by
            have hle' : len * s ≤ vs.size := Nat.le_trans (Nat.mul_le_mul_right s (by omega)) hcap
            have := run_loadCells_list (P := P) { w with drawn := n } ⟨b, 0, none⟩ (vs.toList.take (len * s)) (fun j v hj => by
              rw [addr_add, Nat.zero_add, show ({ w with drawn := n } : World).cell? ⟨b, j, none⟩ = w.cell? ⟨b, j, none⟩ from rfl, cell_of_block hh]
              simp [List.getElem?_take] at hj
              exact hj.2)
            simpa [Builtin.firstCells, Nat.min_eq_left hle'] using this
          have hle' : len * s ≤ vs.size := Nat.le_trans (Nat.mul_le_mul_right s (by omega)) hcap
          have hxs : (vs.toList.take (len * s)).toArray.size = rows.length * s := by simp [hlenr, Nat.min_eq_left hle']
          have hxget : ∀ k, k < len * s → (vs.toList.take (len * s)).toArray[k]? = vs[k]? := fun k hk => by simp [List.getElem?_take, hk]
          obtain ⟨newCap, n, hnc, hrun⟩ := grow (some ⟨b, 0, none⟩) len cap0 _ hfit hbound hold
          obtain ⟨G2, le2, r2, v2⟩ := r1.regrow hb (rows' := rows ++ (fzR fq H ys).1) (w' := { w with heap := w.heap.push (.cells ((vs.toList.take (len * s)).toArray ++ arr ++ Builtin.zeroCells z.cells (newCap - (len + ys.length))) elem (0, 0)), drawn := n })
            (by simp [n1]; omega) (b' := w.heap.size) (sz := s) (cap := newCap) (elem := elem) (fz := (0, 0)) (vs := (vs.toList.take (len * s)).toArray ++ arr ++ Builtin.zeroCells z.cells (newCap - (len + ys.length))) hv'' (.inr rfl) (fun x o hx e => by
              have hlt := (Array.getElem?_eq_some_iff.1 e).1
              simp only
              rw [Array.getElem?_push, if_neg (by omega)]; exact e) (by simp) ⟨rfl, rfl, rfl⟩ (.inl rfl) (by
              have := (zeroCells_get z.cells (newCap - (len + ys.length))).1
              simp only [Array.size_append, hxs, harr, this, hzsz, ← Nat.add_mul]
              exact Nat.mul_le_mul_right s (by omega)) (by simp [n1, hlenr]; omega) (fun r hr => by
              rcases List.mem_append.1 hr with hr | hr
              · exact hrows r hr
              · exact hrow1 r hr) (cellsOf _ rows 0 hxs hrows (fun i r j p hi hj => by
              obtain ⟨v, e, hr⟩ := hcells i r j p hi hj
              refine ⟨v, ?_, hr⟩
              rw [hxget]
              · exact e
              · have h1 : i < rows.length := (List.getElem?_eq_some_iff.1 hi).1
                have h2 : j < s := by rw [← hrows r (List.mem_of_getElem? hi)]; exact (List.getElem?_eq_some_iff.1 hj).1
                have := Nat.mul_le_mul_right s (show i + 1 ≤ len by omega)
                rw [Nat.add_mul, Nat.one_mul] at this; omega) _) (oneOf _ _ (fun o u hu => by
              by_cases ho : o < len * s
              · rw [hxget o ho] at hu; exact h1c _ _ hu
              · have := (Array.getElem?_eq_some_iff.1 hu).1
                rw [hxs, hlenr] at this; omega))
          have hl : (rows ++ (fzR fq H ys).1).length = len + ys.length := by simp [n1, hlenr]
          exact ⟨_, _, G2, _, _, hrun, le1.trans le2, r2, .msl (hl ▸ v2), ha⟩
  · exact ha.elim
theorem aappend_sound (h : Rel G H w) {sT xT ty : TypeId} {x y : PV} {u v : Value} {k : PV → AS → Prop} (hx : Rep G x u) (hy : Rep G y v) (ha : aappend P H sT xT x y k) :
    ∃ r w' G' q H', (Builtin.append_ #[sT, xT] ty #[u, v]).run P w = .ok r w' ∧ G.le G' ∧ Rel G' H' w' ∧ Rep G' q r ∧ k q H' := by
  rcases ha with ha | ha
  · exact aappendX_sound true h hx hy ha
  · exact aappendX_sound false h hx hy ha
end
/-- Equality of what is one cell, of a kind. -/
def aEqCell (d : TypeDesc) (p q : PV) : Option Bool :=
  match d, p, q with
  | .bool, .val (.bool a), .val (.bool b) => some (a == b)
  | .int _, .val (.int k a), .val (.int k' b) => if k = k' then some (a == b) else none
  | .string, .val (.string a), .val (.string b) => some (a == b)
  | _, _, _ => none
/-- Cells that are bytes. -/
def bytesOfCells : List PV → Option (List UInt8)
  | [] => some []
  | .val (.int .u8 n) :: r => if 0 ≤ n ∧ n < 256 then (bytesOfCells r).map (UInt8.ofNat n.toNat :: ·) else none
  | _ => none
/-- Equality of arrays of bytes. -/
def aEqBytes (P : Program) (n : Nat) (e : TypeId) (xs ys : List PV) : Option Bool :=
  match P.underlying e, szOf P e with
  | some (.int .u8), some 1 => match bytesOfCells xs, bytesOfCells ys with
    | some a, some b => if a.length = n ∧ b.length = n then some (a == b) else none
    | _, _ => none
  | _, _ => none
def aEqIn (P : Program) : Nat → TypeId → PV → PV → Option Bool
  | 0, _, _, _ => none
  | d + 1, t, p, q =>
    match P.underlying t, p, q with
    | some (.struct _), .agg xs, .agg ys => if P.stoodInHeld t = false then go d xs ys (P.fieldsOf t).toList else none
    | some (.array n e), .agg xs, .agg ys => if 1 ≤ d then aEqBytes P n e xs ys else none
    | some desc, p, q => aEqCell desc p q
    | none, _, _ => none
where
  go (d : Nat) (xs ys : List PV) : List Field → Option Bool
    | [] => some true
    | f :: fs => if f.name ≠ "_" then
        match partOf P f.type xs f.offset, partOf P f.type ys f.offset with
        | some a, some b => match aEqIn P d f.type a b, go d xs ys fs with
          | some r, some s => some (r && s)
          | _, _ => none
        | _, _ => none
      else go d xs ys fs
section
variable {P : Program} {G : Gh} {H : AS} {w : World}
theorem rep_val {v : Value} {x : Value} (h : Rep G (.val v) x) : x = v := by cases h; rfl
theorem aEqCell_sound {p q : PV} {u v : Value} {d : Nat} {t : TypeId} {ds : TypeDesc} {b : Bool} (ht : P.underlying t = some ds) (hp : Rep G p u) (hq : Rep G q v) (h : aEqCell ds p q = some b) :
    (Op.equalIn (d + 1) t u v).run P w = .ok b w := by
  unfold aEqCell at h
  split at h
  · cases hp; cases hq; simp at h; simp [Op.equalIn, run_underlying ht, h]
  · split at h
    · rename_i e; subst e; cases hp; cases hq; simp at h; simp [Op.equalIn, run_underlying ht, h]
    · cases h
  · cases hp; cases hq; simp at h; simp [Op.equalIn, run_underlying ht, h]
  · cases h
theorem bytesOfCells_sound : ∀ {xs : List PV} {vs : List Value} {a : List UInt8}, bytesOfCells xs = some a → xs.length = vs.length → (∀ (j : Nat) (p : PV) (v : Value), xs[j]? = some p → vs[j]? = some v → Rep G p v) → vs = a.map Extern.Stop.cell := by
  intro xs
  induction xs with
  | nil => intro vs a h hl _; simp [bytesOfCells] at h; subst h; cases vs with
    | nil => rfl
    | cons => simp at hl
  | cons p r ih =>
    intro vs a h hl hr
    cases vs with
    | nil => simp at hl
    | cons v vs =>
      unfold bytesOfCells at h
      split at h
      · rename_i h0; cases h0
      · rename_i n r' heq
        cases heq
        split at h
        · rename_i hn
          cases hb : bytesOfCells r with
          | none => rw [hb] at h; cases h
          | some b =>
            rw [hb] at h
            simp at h
            subst h
            have h0 := rep_val (hr 0 _ v rfl rfl)
            have ht := ih hb (by simpa using hl) (fun j p v hp hv => hr (j + 1) p v (by simpa using hp) (by simpa using hv))
            rw [h0, ht, List.map_cons]
            congr 1
            show Value.int .u8 n = Value.int .u8 ((UInt8.ofNat n.toNat).toNat : Int)
            rw [UInt8.toNat_ofNat']
            congr 1
            omega
        · cases h
      · cases h
theorem partOf_sound {t : TypeId} {xs : List PV} {vs : Array Value} {off : Nat} {p : PV} (h : Rep G (.agg xs) (.agg vs)) (hp : partOf P t xs off = some p) : ∃ v, (∀ w, (part t vs off).run P w = .ok v w) ∧ Rep G p v := by
  cases h with
  | agg hlen h1 h2 =>
    unfold partOf at hp
    split at hp
    · rename_i sz ha hs
      split at hp
      · rename_i hle
        simp at hp
        subst hp
        refine ⟨.agg (vs.extract off (off + sz)), fun w => by simp [part, runAgg ha, runSize hs], ?_⟩
        refine .agg (by simp; omega) (fun j v hv => ?_) (fun j p v hj hv => ?_)
        · simp [Array.getElem?_extract] at hv
          exact h1 _ v hv.2
        · rw [List.getElem?_take] at hj
          split at hj
          · rw [List.getElem?_drop] at hj
            simp [Array.getElem?_extract] at hv
            exact h2 _ p v hj hv.2
          · cases hj
      · cases hp
    · rename_i _ ha
      have hlt : off < vs.size := by rw [← hlen]; exact (List.getElem?_eq_some_iff.1 hp).1
      exact ⟨vs[off], fun w => by simp [part, runAgg ha, hlt], h2 off p _ hp (by simp [hlt])⟩
    · cases hp
theorem aEqIn_sound : ∀ (d : Nat) {t : TypeId} {p q : PV} {u v : Value} {b : Bool}, Rep G p u → Rep G q v → aEqIn P d t p q = some b → ∀ w, (Op.equalIn d t u v).run P w = .ok b w
  | 0, t, p, q, u, v, b, _, _, h => by simp [aEqIn] at h
  | d + 1, t, p, q, u, v, b, hp, hq, h => by
    intro w
    unfold aEqIn at h
    split at h
    · rename_i fs xs ys hu
      split at h
      · rename_i hst
        obtain ⟨us, rfl⟩ : ∃ us, u = .agg us := by cases hp; exact ⟨_, rfl⟩
        obtain ⟨vs, rfl⟩ : ∃ vs, v = .agg vs := by cases hq; exact ⟨_, rfl⟩
        have hf : P.fieldsOf t = fs := by simp [Program.fieldsOf, hu]
        rw [run_equalIn_struct w d t us vs (by rw [hf]; exact hu) hst]
        revert h
        generalize (P.fieldsOf t).toList = l
        induction l generalizing b with
        | nil => intro h; simp [aEqIn.go] at h; simp [Op.eqFields, h]
        | cons f fs ih =>
          intro h
          unfold aEqIn.go at h
          unfold Op.eqFields
          split at h
          · rename_i hn
            simp only [hn, ne_eq, not_false_eq_true, if_true]
            split at h
            · rename_i a b' ha hb
              split at h
              · rename_i r s hr hs
                simp at h
                obtain ⟨x, hx, rx⟩ := partOf_sound hp ha
                obtain ⟨y, hy, ry⟩ := partOf_sound hq hb
                simp only [Sem.run_bind, hx, hy, Result.andThen_ok, aEqIn_sound d rx ry hr w]
                cases r with
                | false => simp at h; simp [h]
                | true => simp at h; subst h; simp [ih s hs]
              · cases h
            · cases h
          · rename_i hn
            have hn' : f.name = "_" := by simpa using hn
            simp only [hn', ne_eq, not_true_eq_false, if_false]
            exact ih b h
      · cases h
    · rename_i n e xs ys hu
      split at h
      · rename_i hd
        obtain ⟨d', rfl⟩ : ∃ d', d = d' + 1 := ⟨d - 1, by omega⟩
        unfold aEqBytes at h
        split at h
        · rename_i he he1
          split at h
          · rename_i a b' ha hb
            split at h
            · rename_i hl
              simp at h
              cases hp with
              | @agg _ us hlx _ hx =>
                cases hq with
                | @agg _ vs hly _ hy =>
                  have e1 := bytesOfCells_sound (vs := us.toList) ha (by simpa using hlx) (fun j p v hp hv => hx j p v hp (by simpa using hv))
                  have e2 := bytesOfCells_sound (vs := vs.toList) hb (by simpa using hly) (fun j p v hp hv => hy j p v hp (by simpa using hv))
                  have e1' : us = (a.map Extern.Stop.cell).toArray := by rw [← e1]
                  have e2' : vs = (b'.map Extern.Stop.cell).toArray := by rw [← e2]
                  rw [e1', e2', run_equalIn_bytes w d' t e n hu he (fun w => runSize he1 w) a b' hl.1 hl.2, h]
            · cases h
          · cases h
        · cases h
      · cases h
    · rename_i desc hu _ _
      exact aEqCell_sound hu hp hq h
    · cases h
/-- Arithmetic and comparison of literals. -/
def aBinV (op : BinOp) (x y : Value) : Option Value :=
  match op, x, y with
  | .shl, .int k a, .int _ b => if 0 ≤ b then some (.int k (k.wrap (a * 2 ^ min b.toNat k.bits))) else none
  | .shr, .int k a, .int _ b => if 0 ≤ b then some (.int k (a.fdiv (2 ^ min b.toNat k.bits))) else none
  | .add, .int k a, .int k' b => if k = k' then some (.int k (k.wrap (a + b))) else none
  | .sub, .int k a, .int k' b => if k = k' then some (.int k (k.wrap (a - b))) else none
  | .mul, .int k a, .int k' b => if k = k' then some (.int k (k.wrap (a * b))) else none
  | .quo, .int k a, .int k' b => if k = k' ∧ b ≠ 0 then some (.int k (k.wrap (a.tdiv b))) else none
  | .rem, .int k a, .int k' b => if k = k' ∧ b ≠ 0 then some (.int k (a.tmod b)) else none
  | .and, .int k a, .int k' b => if k = k' then some (.int k (k.wrap ((BitVec.ofInt k.bits a) &&& (BitVec.ofInt k.bits b)).toNat)) else none
  | .or, .int k a, .int k' b => if k = k' then some (.int k (k.wrap ((BitVec.ofInt k.bits a) ||| (BitVec.ofInt k.bits b)).toNat)) else none
  | .xor, .int k a, .int k' b => if k = k' then some (.int k (k.wrap ((BitVec.ofInt k.bits a) ^^^ (BitVec.ofInt k.bits b)).toNat)) else none
  | .eql, .int k a, .int k' b => if k = k' then some (.bool (a == b)) else none
  | .neq, .int k a, .int k' b => if k = k' then some (.bool (a != b)) else none
  | .lss, .int k a, .int k' b => if k = k' then some (.bool (decide (a < b))) else none
  | .leq, .int k a, .int k' b => if k = k' then some (.bool (decide (a ≤ b))) else none
  | .gtr, .int k a, .int k' b => if k = k' then some (.bool (decide (a > b))) else none
  | .geq, .int k a, .int k' b => if k = k' then some (.bool (decide (a ≥ b))) else none
  | .add, .string a, .string b => if a.size + b.size ≤ 2 ^ 62 then some (.string (a ++ b)) else none
  | .eql, .string a, .string b => some (.bool (a == b))
  | .neq, .string a, .string b => some (.bool (!(a == b)))
  | .lss, .string a, .string b => some (.bool (Op.bytesLess a.toList b.toList))
  | .gtr, .string a, .string b => some (.bool (!(Op.bytesLess a.toList b.toList || a.toList == b.toList)))
  | .eql, .float k a, .float k' b => if k = k' then some (.bool (k.format.order a b == some .eq)) else none
  | .neq, .float k a, .float k' b => if k = k' then some (.bool (k.format.order a b != some .eq)) else none
  | .lss, .float k a, .float k' b => if k = k' then some (.bool (k.format.order a b == some .lt)) else none
  | .gtr, .float k a, .float k' b => if k = k' then some (.bool (k.format.order a b == some .gt)) else none
  | _, _, _ => none
set_option linter.unusedSimpArgs false in
theorem aBinV_sound {op : BinOp} {x y r : Value} {t : TypeId} (h : aBinV op x y = some r) (xo yo : Operand) (w : World) : (do eqGuard op t xo yo x y; binOp op t x y : Sem Value).run P w = .ok r w := by
  unfold aBinV at h
  split at h <;> (try split at h) <;> simp at h <;> (try subst_vars) <;> (try obtain ⟨rfl, _⟩ := ‹_ ∧ _›) <;>
    simp_all [binOp, Op.shift, Op.intArith, Op.intDiv, Op.intBits, Op.intCmp, Op.stringOp, Op.floatCmp, eqGuard_at_float, beq_toListBytes, eqGuard_add, eqGuard_sub, eqGuard_mul, eqGuard_quo, eqGuard_rem, eqGuard_and, eqGuard_or, eqGuard_xor, eqGuard_shl, eqGuard_shr, eqGuard_lss, eqGuard_leq, eqGuard_gtr, eqGuard_geq, eqGuard_at_int, eqGuard_at_string]
  all_goals (first | (intro hlt; exact absurd hlt (by omega)) | omega)
end
/-- A choice between two values. -/
def PV.sel (t : Bool) (p q : PV) : PV := match p, q with
  | .val (.bool a), .val (.bool b) => .val (.bool (bif t then a else b))
  | p, q => bif t then p else q
@[simp] theorem sel_true (p q : PV) : PV.sel true p q = p := by unfold PV.sel; split <;> simp_all
@[simp] theorem sel_false (p q : PV) : PV.sel false p q = q := by unfold PV.sel; split <;> simp_all
@[simp] theorem sel_bool (t a b : Bool) : PV.sel t (.val (.bool a)) (.val (.bool b)) = .val (.bool (bif t then a else b)) := rfl
/-- A comparison with nil: what is known. -/
def aNil : PV → Option Bool
  | .val (.slice none 0 0) | .val (.pointer none) | .val .nilFunc | .val (.map none) | .val .nilIface => some true
  | .slice _ _ (_ :: _) | .msl .. | .ptr .. | .rptr .. | .func .. | .map _ | .iface .. => some false
  | _ => none
def aBin (P : Program) (op : BinOp) (t : TypeId) (x y : PV) : Option PV :=
  match x, y with
  | .agg xs, .agg ys => if P.eqGuardType P.depth t = false then
      match op, aEqIn P Op.maxDepth t (.agg xs) (.agg ys) with
      | .eql, some b => some (.val (.bool b))
      | .neq, some b => some (.val (.bool (!b)))
      | _, _ => none
    else none
  | .val (.bool a), .val (.bool b) => match P.underlying t, op with
      | some .bool, .eql => some (.val (.bool (a == b)))
      | some .bool, .neq => some (.val (.bool (!(a == b))))
      | _, _ => none
  | .val a, .val b => (aBinV op a b).map .val
  | _, _ => none
def aUn (op : UnOp) (x : PV) : Option PV :=
  match op, x with
  | .not, .val (.bool b) => some (.val (.bool (!b)))
  | .neg, .val (.int k n) => some (.val (.int k (k.wrap (-n))))
  | .xor, .val (.int k n) => some (.val (.int k (k.wrap ((BitVec.ofInt k.bits (if k.signed then -1 else k.max)) ^^^ (BitVec.ofInt k.bits n)).toNat)))
  | _, _ => none
def aConvert (P : Program) (src dst : TypeId) (x : PV) : Option PV :=
  match P.underlying src, P.underlying dst, x with
  | some _, some (.int k), .val (.int _ n) => some (.val (.int k (k.wrap n)))
  | some .string, some .string, .val (.string s) => some (.val (.string s))
  | some _, some (.float k), .val (.int _ n) => some (.val (.float k (k.nearest n)))
  | _, _, _ => none
/-- A float's reckoning: its kind; the bits are left open. -/
def aFloatOp (op : BinOp) (x y : PV) : Option FloatKind := match op, x, y with
  | .add, .val (.float k _), .val (.float k' _) | .sub, .val (.float k _), .val (.float k' _) | .mul, .val (.float k _), .val (.float k' _) | .quo, .val (.float k _), .val (.float k' _) => if k = k' then some k else none
  | _, _, _ => none
def aFieldAddr (P : Program) (s : TypeId) (x : PV) (f : Nat) : Option PV :=
  match P.underlying s with
  | some (.struct fs) => match fs[f]? with
    | some fd => match szOf P fd.type, x with
      | some (_ + 1), .ptr id vl row off => some (.ptr id vl row (off + fd.offset))
      | some (_ + 1), .rptr c cells => some (.rptr c (cells.drop fd.offset))
      | _, _ => none
    | none => none
  | _ => none
def aField (P : Program) (s : TypeId) (x : PV) (f : Nat) : Option PV :=
  match P.underlying s, x with
  | some (.struct fs), .agg cells => match fs[f]? with
    | some fd => partOf P fd.type cells fd.offset
    | none => none
  | _, _ => none
def aIndexAddr (P : Program) (t : TypeId) (x i : PV) : Option PV :=
  match P.underlying t, i with
  | some (.slice elem), .val (.int _ n) => (szOf P elem).bind fun sz => aindex sz x n
  | some (.array len elem), .val (.int _ n) => match x, szOf P elem with
    | .ptr id vl row off, some sz => if 0 ≤ n ∧ n < len then some (.ptr id vl row (off + n.toNat * sz)) else none
    | .rptr c cells, some sz => if 0 ≤ n ∧ n < len then some (.rptr c (cells.drop (n.toNat * sz))) else none
    | _, _ => none
  | _, _ => none
def aIndex (P : Program) (t : TypeId) (x i : PV) : Option PV :=
  match P.underlying t, x, i with
  | some .string, .val (.string s), .val (.int _ n) => if h : 0 ≤ n ∧ n.toNat < s.size then some (.val (.int .u8 (s[n.toNat]'h.2).toNat)) else none
  | some (.array len elem), .agg cells, .val (.int _ n) => if 0 ≤ n ∧ n < len then (szOf P elem).bind fun sz => partOf P elem cells (n.toNat * sz) else none
  | _, _, _ => none
def cutOk (P : Program) (t : TypeId) (x : PV) : Bool := match P.underlying t, x with
  | some .string, .val (.string _) => true
  | some (.slice e), .val (.slice none 0 0) => (szOf P e).isSome
  | some (.slice e), .slice c s rows => match szOf P e with
    | some sz => rows.isEmpty || (s == sz && decide (c < 2))
    | none => false
  | _, _ => false
def aBound : Option PV → Option (Option Int)
  | none => some none
  | some (.val (.int _ n)) => some (some n)
  | _ => none
def aCutOp (P : Program) (t : TypeId) (x : PV) (lo hi : Option PV) : Option PV :=
  if cutOk P t x = true then (aBound lo).bind fun l => (aBound hi).bind fun h => acut x l h else none
/-- An array's places, as fields. -/
def arrFields (n : Nat) (e : TypeId) (sz : Nat) : Array Field := (Array.range n).map fun i => { (default : Field) with type := e, offset := i * sz }
def aBuild (P : Program) (t : TypeId) (parts : List (Nat × PV)) : Option PV :=
  match P.underlying t, zeroOf P t with
  | some (.struct fs), some zs =>
    if zs.all PV.atomic = true ∧ (fs.toList.all fun f => (szOf P f.type).isSome) = true then (go fs zs parts).map .agg else none
  | some (.array n e), some zs => match szOf P e with
    | some sz => if zs.all PV.atomic = true then (go (arrFields n e sz) zs parts).map .agg else none
    | none => none
  | _, _ => none
where
  go (fs : Array Field) (cells : List PV) : List (Nat × PV) → Option (List PV)
    | [] => some cells
    | (i, p) :: rest => match fs[i]? with
      | some f => match szOf P f.type with
        | some sz => if p.okCells = true ∧ p.cells.length = sz ∧ f.offset + sz ≤ cells.length then go fs (splice cells f.offset p.cells) rest else none
        | none => none
      | none => none
def aExtract (x : PV) (i : Nat) : Option PV := match x with
  | .tuple vs => vs[i]?
  | _ => none
section
variable {P : Program} {G : Gh} {H : AS} {w : World}
theorem aBin_sound {op : BinOp} {t : TypeId} {x y q : PV} {u v : Value} (hx : Rep G x u) (hy : Rep G y v) (xo yo : Operand) (h : aBin P op t x y = some q) (w : World) :
    ∃ r, (do eqGuard op t xo yo u v; binOp op t u v : Sem Value).run P w = .ok r w ∧ Rep G q r := by
  unfold aBin at h
  split at h
  · rename_i xs ys
    split at h
    · rename_i hg
      obtain ⟨us, rfl⟩ : ∃ us, u = .agg us := by cases hx; exact ⟨_, rfl⟩
      obtain ⟨vs, rfl⟩ : ∃ vs, v = .agg vs := by cases hy; exact ⟨_, rfl⟩
      split at h
      · rename_i b hb
        simp at h; subst h
        refine ⟨.bool b, ?_, .val _⟩
        simp [run_eqGuard_agg, hg, binOp, Op.equal, aEqIn_sound _ hx hy hb w]
      · rename_i b hb
        simp at h; subst h
        refine ⟨.bool (!b), ?_, .val _⟩
        simp [run_eqGuard_agg, hg, binOp, Op.equal, aEqIn_sound _ hx hy hb w]
      · cases h
    · cases h
  · rename_i a b
    cases hx; cases hy
    split at h
    · rename_i hu
      simp at h; subst h
      have := aEqCell_sound (w := w) (d := 9999) hu (.val (G := G) (.bool a)) (.val (.bool b)) (b := (a == b)) rfl
      exact ⟨.bool (a == b), by simp only [eqGuard_at_bool, binOp, Op.equal, show Op.maxDepth = 9999 + 1 from rfl, Sem.run_bind, Sem.run_pure, Result.andThen_ok, this], .val _⟩
    · rename_i hu
      simp at h; subst h
      have := aEqCell_sound (w := w) (d := 9999) hu (.val (G := G) (.bool a)) (.val (.bool b)) (b := (a == b)) rfl
      exact ⟨.bool (!(a == b)), by simp only [eqGuard_at_bool, binOp, Op.equal, show Op.maxDepth = 9999 + 1 from rfl, Sem.run_bind, Sem.run_pure, Result.andThen_ok, this], .val _⟩
    · cases h
  · rename_i a b _
    cases hx; cases hy
    simp only [Option.map_eq_some_iff] at h
    obtain ⟨r, hr, rfl⟩ := h
    exact ⟨r, aBinV_sound hr xo yo w, .val _⟩
  · cases h
theorem aUn_sound {op : UnOp} {x q : PV} {u : Value} (hx : Rep G x u) (h : aUn op x = some q) (w : World) : ∃ r, (Op.unary op u).run P w = .ok r w ∧ Rep G q r := by
  unfold aUn at h
  split at h
  · cases hx; simp at h; subst h; exact ⟨_, rfl, .val _⟩
  · rename_i k n; cases hx; simp at h; subst h; exact ⟨.int k (k.wrap (-n)), by simp [Op.unary, Op.intArith], .val _⟩
  · cases hx; simp at h; subst h; exact ⟨_, rfl, .val _⟩
  · cases h
theorem aConvert_sound {src dst : TypeId} {x q : PV} {u : Value} (hx : Rep G x u) (h : aConvert P src dst x = some q) (w : World) : ∃ r, (convert src dst u).run P w = .ok r w ∧ Rep G q r := by
  unfold aConvert at h
  split at h
  · rename_i h1 h2; cases hx; simp at h; subst h
    exact ⟨_, by simp [convert, run_underlying h1, run_underlying h2, Conv.intToInt], .val _⟩
  · rename_i h1 h2; cases hx; simp at h; subst h
    exact ⟨_, by simp [convert, run_underlying h1, run_underlying h2], .val _⟩
  · rename_i h1 h2; cases hx; simp at h; subst h
    exact ⟨_, by simp [convert, run_underlying h1, run_underlying h2, Conv.intToFloat], .val _⟩
  · cases h
def floatDone (k : FloatKind) (a b : Nat) (o : Option Nat) : Sem Value := match o with
  | some r => pure (.float k r)
  | none => do pure (.float k (← choose (.nanBits k a b)))
theorem aFloatOp_sound {op : BinOp} {t : TypeId} {x y : PV} {k : FloatKind} {u v : Value} (hx : Rep G x u) (hy : Rep G y v) (xo yo : Operand) (h : aFloatOp op x y = some k) (w : World) :
    ∃ r n, (do eqGuard op t xo yo u v; binOp op t u v : Sem Value).run P w = .ok (.float k r) { w with drawn := n } := by
  have key : ∀ (op : BinOp) (a b : Nat), (op = .add ∨ op = .sub ∨ op = .mul ∨ op = .quo) → ∃ r n, (do eqGuard op t xo yo (.float k a) (.float k b); binOp op t (.float k a) (.float k b) : Sem Value).run P w = .ok (.float k r) { w with drawn := n } := by
    intro op a b hop
    have hg : eqGuard op t xo yo (.float k a) (.float k b) = pure () := eqGuard_at_float (op := op) (t := t) xo yo _ k a
    have fin : ∀ o : Option Nat, ∃ r n, (floatDone k a b o).run P w = .ok (.float k r) { w with drawn := n } := by
      intro o
      cases o with
      | some r => exact ⟨r, w.drawn, rfl⟩
      | none =>
        refine ⟨(Question.nanBits k a b).cut (w.tape w.drawn (.nanBits k a b)), w.drawn + 1, ?_⟩
        simp [floatDone, Question.forced]
    rcases hop with rfl | rfl | rfl | rfl
    · obtain ⟨r, n, e⟩ := fin (k.format.add a b)
      exact ⟨r, n, by simp [hg, binOp, Op.floatArith]; exact e⟩
    · obtain ⟨r, n, e⟩ := fin (k.format.sub a b)
      exact ⟨r, n, by simp [hg, binOp, Op.floatArith]; exact e⟩
    · obtain ⟨r, n, e⟩ := fin (k.format.mul a b)
      exact ⟨r, n, by simp [hg, binOp, Op.floatArith]; exact e⟩
    · obtain ⟨r, n, e⟩ := fin (k.format.div a b)
      exact ⟨r, n, by simp [hg, binOp, Op.floatArith]; exact e⟩
  unfold aFloatOp at h
  split at h
  all_goals first | (cases h; done) | skip
  all_goals (split at h <;> first | (cases h; done) | skip)
  all_goals (rename_i e; subst e; simp at h; subst h; cases hx; cases hy)
  all_goals exact key _ _ _ (by simp)
theorem rptr_drop {c n : Nat} {cells : List PV} {b o : Nat} (h : Rep G (.rptr c cells) (.pointer (some ⟨b, o, none⟩))) : Rep G (.rptr c (cells.drop n)) (.pointer (some ⟨b, o + n, none⟩)) := by
  cases h with
  | rptr vs h1 h2 h3 =>
    refine .rptr (fun j => vs (n + j)) (fun j p hp => ?_) (fun j p hp => ?_) (fun j p hp => ?_) <;> rw [List.getElem?_drop] at hp
    · have := h1 _ p hp; rwa [← Nat.add_assoc] at this
    · exact h2 _ p hp
    · exact h3 _ p hp
theorem aFieldAddr_sound {s : TypeId} {x q : PV} {f : Nat} {u : Value} (hx : Rep G x u) (h : aFieldAddr P s x f = some q) (w : World) : ∃ r, (Instr.fieldAt s u f).run P w = .ok r w ∧ Rep G q r := by
  unfold aFieldAddr at h
  split at h
  case h_2 => cases h
  rename_i fs hu
  split at h
  case h_2 => cases h
  rename_i fd hf
  split at h
  · rename_i n id vl row off hs
    simp at h; subst h
    cases hx with
    | ptr hv =>
      refine ⟨_, by simp [Instr.fieldAt, run_underlying hu, hf, Instr.sureAddr, fieldPlace, runSize hs, addr_add] <;> rfl, ?_⟩
      rw [Nat.add_assoc]; exact .ptr hv
  · rename_i n c cells hs
    simp at h; subst h
    obtain ⟨b, o, rfl⟩ : ∃ b o, u = .pointer (some ⟨b, o, none⟩) := by cases hx; exact ⟨_, _, rfl⟩
    exact ⟨_, by simp [Instr.fieldAt, run_underlying hu, hf, Instr.sureAddr, fieldPlace, runSize hs, addr_add] <;> rfl, rptr_drop hx⟩
  · cases h
theorem aField_sound {s : TypeId} {x q : PV} {f : Nat} {u : Value} (hx : Rep G x u) (h : aField P s x f = some q) (w : World) : ∃ r, (Instr.field s u f).run P w = .ok r w ∧ Rep G q r := by
  unfold aField at h
  split at h
  case h_2 => cases h
  rename_i fs cells hu
  split at h
  case h_2 => cases h
  rename_i fd hf
  obtain ⟨us, rfl⟩ : ∃ us, u = .agg us := by cases hx; exact ⟨_, rfl⟩
  obtain ⟨r, hr, hrep⟩ := partOf_sound hx h
  exact ⟨r, by simp [Instr.field, run_underlying hu, hf, asAgg, hr], hrep⟩
theorem aindex_sound {sz : Nat} {x q : PV} {n : Int} {u : Value} (hx : Rep G x u) (h : aindex sz x n = some q) : ∃ b o len cap, u = .slice (some ⟨b, o, none⟩) len cap ∧ 0 ≤ n ∧ n < len ∧ Rep G q (.pointer (some ⟨b, o + n.toNat * sz, none⟩)) := by
  unfold aindex at h
  split at h
  · rename_i c s rows
    split at h
    · rename_i hc
      obtain ⟨rfl, h0⟩ := hc
      simp only [Option.map_eq_some_iff] at h
      obtain ⟨r, hr, rfl⟩ := h
      have hlt : n.toNat < rows.length := (List.getElem?_eq_some_iff.1 hr).1
      cases hx with
      | slice vs gx g0 g1 g2 g3 g4 =>
        refine ⟨_, _, _, _, rfl, h0, by omega, .rptr (fun j => vs n.toNat j) (fun j p hp => ?_) (fun j p hp => ?_) (fun j p hp => ?_)⟩
        · exact g2 _ r j p hr hp
        · exact g3 _ r j p hr hp
        · exact g4 _ r j p hr hp
      | nilSlice => simp at hr
      | emptySlice => simp at hr
    · cases h
  · rename_i id len s
    split at h
    · rename_i hc
      obtain ⟨rfl, h0, hlt⟩ := hc
      simp at h; subst h
      cases hx with
      | msl hv =>
        refine ⟨_, _, _, _, rfl, h0, by omega, ?_⟩
        have := Rep.ptr (row := n.toNat) (off := 0) hv
        simpa using this
    · cases h
  · cases h
theorem aIndexAddr_sound {t : TypeId} {x i q : PV} {u v : Value} (hx : Rep G x u) (hi : Rep G i v) (h : aIndexAddr P t x i = some q) (w : World) : ∃ r, (Instr.indexAt t u v).run P w = .ok r w ∧ Rep G q r := by
  unfold aIndexAddr at h
  split at h
  · rename_i elem k n hu
    cases hi
    simp only [Option.bind_eq_some_iff] at h
    obtain ⟨sz, hs, h⟩ := h
    obtain ⟨b, o, len, cap, rfl, h0, hlt, hrep⟩ := aindex_sound hx h
    exact ⟨_, by simp [Instr.indexAt, asIntOf, run_underlying hu, h0, hlt, runSize hs, addr_add] <;> rfl, hrep⟩
  · rename_i len elem k n hu
    cases hi
    split at h
    · rename_i id vl row off sz hs
      split at h
      · rename_i hc
        simp at h; subst h
        cases hx with
        | ptr hv =>
          refine ⟨_, by simp [Instr.indexAt, asIntOf, run_underlying hu, Instr.sureAddr, hc.1, hc.2, runSize hs, addr_add] <;> rfl, ?_⟩
          rw [Nat.add_assoc]; exact .ptr hv
      · cases h
    · rename_i c cells sz hs
      split at h
      · rename_i hc
        simp at h; subst h
        obtain ⟨b, o, rfl⟩ : ∃ b o, u = .pointer (some ⟨b, o, none⟩) := by cases hx; exact ⟨_, _, rfl⟩
        exact ⟨_, by simp [Instr.indexAt, asIntOf, run_underlying hu, Instr.sureAddr, hc.1, hc.2, runSize hs, addr_add] <;> rfl, rptr_drop hx⟩
      · cases h
    · cases h
  · cases h
theorem aIndex_sound {t : TypeId} {x i q : PV} {u v : Value} (hx : Rep G x u) (hi : Rep G i v) (h : aIndex P t x i = some q) (w : World) : ∃ r, (Instr.index t u v).run P w = .ok r w ∧ Rep G q r := by
  unfold aIndex at h
  split at h
  · rename_i s k n hu
    cases hi; cases hx
    split at h
    · rename_i hc
      simp at h; subst h
      exact ⟨_, by simp [Instr.index, asIntOf, run_underlying hu, hc.1, hc.2] <;> rfl, .val _⟩
    · cases h
  · rename_i len elem cells k n hu
    cases hi
    split at h
    · rename_i hc
      simp only [Option.bind_eq_some_iff] at h
      obtain ⟨sz, hs, h⟩ := h
      obtain ⟨us, rfl⟩ : ∃ us, u = .agg us := by cases hx; exact ⟨_, rfl⟩
      obtain ⟨r, hr, hrep⟩ := partOf_sound hx h
      exact ⟨r, by simp [Instr.index, asIntOf, run_underlying hu, hc.1, hc.2, runSize hs, hr], hrep⟩
    · cases h
  · cases h
theorem run_sliceBound {k : IntKind} {i : Int} {y : Nat} {code : BoundsCode} (h0 : 0 ≤ i) (h : i ≤ y) (w : World) : (Instr.sliceBound (.int k i) y code).run P w = .ok i.toNat w := by
  simp [Instr.sliceBound, asIntOf, h0, h]
theorem rep_empty {a : Option Addr} {cap : Nat} (h : (∃ b o, a = some ⟨b, o, none⟩) ∨ (a = none ∧ cap = 0)) : Rep G .nilS (.slice a 0 cap) := by
  rcases h with ⟨b, o, rfl⟩ | ⟨rfl, rfl⟩
  · exact .slice (rows := []) (fun _ _ => undef) (fun h => absurd h (by decide)) (by simp) (by simp) (by simp) (by simp) (by simp)
  · exact .nilSlice
/-- A bound of a cut, as an operand's value. -/
def BoundIs (o : Option Int) (v : Option Value) : Prop := match o, v with
  | none, none => True
  | some i, some v => ∃ k, v = .int k i
  | _, _ => False
theorem run_bounds {isSlice : Bool} {len cap : Nat} {lo hi : Option Int} {vlo vhi : Option Value} (hl : BoundIs lo vlo) (hh : BoundIs hi vhi) (hlc : len ≤ cap)
    (h1 : 0 ≤ lo.getD 0) (h2 : lo.getD 0 ≤ hi.getD len) (h3 : hi.getD len ≤ (len : Int)) (w : World) :
    (Instr.sliceBounds isSlice len cap vlo vhi none).run P w = .ok ((lo.getD 0).toNat, (hi.getD len).toNat, cap) w := by
  unfold Instr.sliceBounds
  cases lo <;> cases hi <;> cases vlo <;> cases vhi <;> simp only [BoundIs] at hl hh <;> simp at h1 h2 h3
  · simp
  · obtain ⟨k, rfl⟩ := hh
    simp [run_sliceBound h2 (show _ ≤ (cap : Int) by omega)]
  · obtain ⟨k, rfl⟩ := hl
    simp [run_sliceBound h1 h2]
  · obtain ⟨k, rfl⟩ := hl
    obtain ⟨k', rfl⟩ := hh
    rename_i l h
    have : l ≤ (h.toNat : Int) := by omega
    simp [run_sliceBound (show 0 ≤ h by omega) (show h ≤ (cap : Int) by omega), run_sliceBound h1 this]
theorem acut_sound {t : TypeId} {x q : PV} {lo hi : Option Int} {u : Value} {vlo vhi : Option Value} (hx : Rep G x u) (hl : BoundIs lo vlo) (hh : BoundIs hi vhi)
    (ht : P.underlying t = some .string ∨ ∃ e sz, P.underlying t = some (.slice e) ∧ szOf P e = some sz ∧ ∀ c s rows, x = .slice c s rows → rows ≠ [] → s = sz ∧ c < 2) (h : acut x lo hi = some q) (w : World) :
    (∃ s, x = .val (.string s)) ∧ P.underlying t = some .string ∨ (∃ e, P.underlying t = some (.slice e)) ∧ (∀ s, x ≠ .val (.string s)) → ∃ r, (Instr.sliceAt t u vlo vhi none).run P w = .ok r w ∧ Rep G q r := by
  intro hkind
  unfold acut at h
  split at h
  · -- nil
    rcases hkind with ⟨⟨s, e⟩, _⟩ | ⟨⟨e, hu⟩, _⟩
    · cases e
    · cases hx
      split at h
      · rename_i hc
        simp at h; subst h
        obtain ⟨sz, hs⟩ : ∃ sz, szOf P e = some sz := by
          rcases ht with h' | ⟨e', sz, h1, h2, _⟩
          · rw [hu] at h'; cases h'
          · rw [hu] at h1; cases h1; exact ⟨sz, h2⟩
        have hb := run_bounds (P := P) (isSlice := true) (len := 0) (cap := 0) hl hh (Nat.le_refl _) (by omega) (by have := hc.2; cases hi <;> simp_all) (by have := hc.2; cases hi <;> simp_all) w
        refine ⟨.slice none 0 0, ?_, .val _⟩
        have e2 : (hi.getD ((0 : Nat) : Int)) = 0 := by have := hc.2; cases hi <;> simp_all
        rw [hc.1, e2] at hb
        simp [Instr.sliceAt, run_underlying hu, Instr.slice, hb, runSize hs]
      · cases h
  · rename_i c sz rows
    rcases hkind with ⟨⟨s, e⟩, _⟩ | ⟨⟨e, hu⟩, _⟩
    · cases e
    dsimp only at h
    split at h
    · rename_i hc
      obtain ⟨c1, c2, c3⟩ := hc
      simp at h; subst h
      obtain ⟨sz', hs, hsz⟩ : ∃ sz', szOf P e = some sz' ∧ (rows ≠ [] → sz = sz' ∧ c < 2) := by
        rcases ht with h' | ⟨e', sz', h1, h2, h3⟩
        · rw [hu] at h'; cases h'
        · rw [hu] at h1; cases h1; exact ⟨sz', h2, h3 c sz rows rfl⟩
      cases hx with
      | slice vs gx g0 g1 g2 g3 g4 =>
        rename_i b o cap
        have hb := run_bounds (P := P) (isSlice := true) (len := rows.length) (cap := cap) hl hh g0 c1 c2 c3 w
        refine ⟨_, by simp [Instr.sliceAt, run_underlying hu, Instr.slice, hb, runSize hs] <;> rfl, ?_⟩
        generalize hL : (lo.getD 0).toNat = l at *
        generalize hHh : (hi.getD (rows.length : Int)).toNat = hh' at *
        by_cases he : l = hh'
        · have e0 : ((rows.take hh').drop l) = [] := by simp; omega
          rw [e0, show hh' - l = 0 by omega]
          refine rep_empty (.inl ?_)
          split
          · exact ⟨_, _, rfl⟩
          · exact ⟨_, _, by simp [addr_add]; exact ⟨rfl, rfl⟩⟩
        · have hlt : l < hh' := by omega
          have hle : hh' ≤ rows.length := by omega
          have hne : rows ≠ [] := fun e => by subst e; simp at hle; omega
          obtain ⟨hsz', hc2⟩ := hsz hne
          subst hsz'
          have hlen : ((rows.take hh').drop l).length = hh' - l := by simp; omega
          obtain ⟨r0, rs, hrs⟩ : ∃ r0 rs, (rows.take hh').drop l = r0 :: rs := by
            cases e : (rows.take hh').drop l with
            | nil => rw [e] at hlen; simp at hlen; omega
            | cons a l => exact ⟨a, l, rfl⟩
          rw [show PV.sl c sz ((rows.take hh').drop l) = .slice c sz ((rows.take hh').drop l) by rw [hrs]; rfl]
          rw [if_neg (by omega), ← hlen]
          simp only [addr_add]
          have sub : ∀ (i : Nat) (r : List PV), ((rows.take hh').drop l)[i]? = some r → rows[l + i]? = some r := fun i r hi => by
            rw [List.getElem?_drop, List.getElem?_take] at hi
            split at hi
            · exact hi
            · cases hi
          refine .slice (fun i j => vs (l + i) j) (fun h => absurd h (by omega)) (by rw [hlen]; omega) (fun i r hi => g1 _ r (sub i r hi)) (fun i r j p hi hj => ?_) (fun i r j p hi hj => g3 _ r j p (sub i r hi) hj) (fun i r j p hi hj => g4 _ r j p (sub i r hi) hj)
          have := g2 _ r j p (sub i r hi) hj
          rw [Nat.add_mul] at this
          rw [← this]; congr 1; omega
      | nilSlice =>
        have hb := run_bounds (P := P) (isSlice := true) (len := 0) (cap := 0) hl hh (Nat.le_refl _) c1 c2 c3 w
        simp only [List.length_nil, Int.natCast_zero] at c2 c3
        have e1 : lo.getD 0 = 0 := by omega
        have e2 : hi.getD 0 = 0 := by omega
        rw [e1] at hb
        simp [e2] at hb
        refine ⟨.slice none 0 0, ?_, ?_⟩
        · simp [Instr.sliceAt, run_underlying hu, Instr.slice, hb, runSize hs]
        · simp; exact .nilSlice
      | emptySlice =>
        rename_i cap a _
        have hb := run_bounds (P := P) (isSlice := true) (len := 0) (cap := cap) hl hh (Nat.zero_le _) c1 c2 c3 w
        simp only [List.length_nil, Int.natCast_zero] at c2 c3
        have e1 : lo.getD 0 = 0 := by omega
        have e2 : hi.getD 0 = 0 := by omega
        rw [e1] at hb
        simp [e2] at hb
        refine ⟨.slice (some a) 0 cap, ?_, ?_⟩
        · simp [Instr.sliceAt, run_underlying hu, Instr.slice, hb, runSize hs, Addr.add]
        · simp; exact .emptySlice
    · cases h
  · rename_i s
    rcases hkind with ⟨_, hu⟩ | ⟨_, hn⟩
    · cases hx
      dsimp only at h
      split at h
      · rename_i hc
        simp at h; subst h
        have hb := run_bounds (P := P) (isSlice := false) (len := s.size) (cap := s.size) hl hh (Nat.le_refl _) hc.1 hc.2.1 hc.2.2 w
        exact ⟨_, by simp [Instr.sliceAt, run_underlying hu, Instr.slice, hb] <;> rfl, .val _⟩
      · cases h
    · exact absurd rfl (hn s)
  · cases h
def RepOpt (G : Gh) : Option PV → Option Value → Prop
  | none, none => True
  | some p, some v => Rep G p v
  | _, _ => False
theorem aBound_sound {o : Option PV} {v : Option Value} {l : Option Int} (h : aBound o = some l) (hr : RepOpt G o v) : BoundIs l v := by
  unfold aBound at h
  split at h
  · simp at h; subst h; cases v <;> simp_all [BoundIs, RepOpt]
  · simp at h; subst h
    cases v with
    | none => simp [RepOpt] at hr
    | some v => simp [RepOpt] at hr; cases hr; exact ⟨_, rfl⟩
  · cases h
theorem aCutOp_sound {t : TypeId} {x q : PV} {lo hi : Option PV} {u : Value} {vlo vhi : Option Value} (hx : Rep G x u) (hl : RepOpt G lo vlo)
    (hh : RepOpt G hi vhi) (h : aCutOp P t x lo hi = some q) (w : World) : ∃ r, (Instr.sliceAt t u vlo vhi none).run P w = .ok r w ∧ Rep G q r := by
  unfold aCutOp at h
  split at h
  case isFalse => cases h
  rename_i hok
  simp only [Option.bind_eq_some_iff] at h
  obtain ⟨l, e1, l', e2, h⟩ := h
  have b1 := aBound_sound e1 hl
  have b2 := aBound_sound e2 hh
  unfold cutOk at hok
  split at hok
  · rename_i s hu
    exact acut_sound hx b1 b2 (.inl hu) h w (.inl ⟨⟨s, rfl⟩, hu⟩)
  · rename_i e hu
    obtain ⟨sz, hs⟩ := Option.isSome_iff_exists.1 hok
    exact acut_sound hx b1 b2 (.inr ⟨e, sz, hu, hs, fun c s rows e => by cases e⟩) h w (.inr ⟨⟨e, hu⟩, fun s e => by cases e⟩)
  · rename_i e c s rows hu
    split at hok
    · rename_i sz hs
      exact acut_sound hx b1 b2 (.inr ⟨e, sz, hu, hs, fun c' s' rows' e hne => by
        cases e
        cases rows with
        | nil => exact absurd rfl hne
        | cons a l => simpa using hok⟩) h w (.inr ⟨⟨e, hu⟩, fun s e => by cases e⟩)
    · cases hok
  · cases hok
theorem aBuild_go_sound (fs : Array Field) (places : Nat → Option (Nat × Nat)) (hpl : ∀ (i : Nat) (f : Field) (sz : Nat), fs[i]? = some f → szOf P f.type = some sz → places i = some (f.offset, sz)) :
    ∀ (parts : List (Nat × PV)) (vparts : List (Nat × Value)) (cells cells' : List PV) (vs : Array Value), parts.length = vparts.length →
    (∀ (i : Nat) (x : Nat × PV) (y : Nat × Value), parts[i]? = some x → vparts[i]? = some y → x.1 = y.1 ∧ Rep G x.2 y.2) → Rep G (.agg cells) (.agg vs) → aBuild.go P fs cells parts = some cells' →
    ∃ vs', Instr.fill places vs vparts = some vs' ∧ Rep G (.agg cells') (.agg vs')
  | [], vparts, cells, cells', vs, hlen, _, hrep, hgo => by
    cases vparts with
    | nil => simp [aBuild.go] at hgo; subst hgo; exact ⟨vs, rfl, hrep⟩
    | cons a l => simp at hlen
  | (i, p) :: rest, vparts, cells, cells', vs, hlen, hp, hrep, hgo => by
    cases vparts with
    | nil => simp at hlen
    | cons y l =>
      obtain ⟨i', v⟩ := y
      obtain ⟨hi, hpv⟩ := hp 0 (i, p) (i', v) rfl rfl
      simp at hi; subst hi
      unfold aBuild.go at hgo
      split at hgo
      case h_2 => cases hgo
      rename_i f hf
      split at hgo
      case h_2 => cases hgo
      rename_i sz hs
      split at hgo
      case isFalse => cases hgo
      rename_i hc
      obtain ⟨hok, hcl, hle⟩ := hc
      obtain ⟨c1, c2, c3⟩ := hpv.cells hok
      have hvsz : v.cells.size = sz := by rw [← c1]; exact hcl
      cases hrep with
      | agg h1 h2 h3 =>
        have key : Rep G (.agg (splice cells f.offset p.cells)) (.agg (writeAll vs f.offset v.cells.toList)) := by
          refine .agg (by rw [splice_length (by omega), writeAll_size]; exact h1) (fun j u hu => ?_) (fun j q u hq hu => ?_)
          · rw [writeAll_get _ _ _ _ (by simp; omega)] at hu
            split at hu
            · exact c3 _ u (by simpa using hu)
            · exact h2 _ u hu
          · rw [writeAll_get _ _ _ _ (by simp; omega)] at hu
            rw [splice_get (by omega)] at hq
            by_cases hin : f.offset ≤ j ∧ j < f.offset + p.cells.length
            · rw [if_pos hin] at hq
              rw [if_pos (by simp; omega)] at hu
              exact c2 _ q u hq (by simpa using hu)
            · rw [if_neg hin] at hq
              rw [if_neg (by simp; omega)] at hu
              exact h3 _ q u hq hu
        obtain ⟨vs', e, hr⟩ := aBuild_go_sound fs places hpl rest l _ cells' _ (by simpa using hlen) (fun k x y hx hy => hp (k + 1) x y (by simpa using hx) (by simpa using hy)) key hgo
        refine ⟨vs', ?_, hr⟩
        rw [← e]
        simp only [Instr.fill, hpl i f sz hf hs, hvsz]
        rw [if_neg (by simp; omega)]
        congr 1
        have := foldl_write f.offset v.cells.toList 0 vs
        rw [Nat.add_zero] at this
        rw [← this, ← Array.foldl_toList]
        simp
theorem run_mapM_sizes (fs : Array Field) (h : ∀ f ∈ fs, ∃ n, szOf P f.type = some n) (w : World) :
    (fs.mapM fun f => do pure (f.offset, ← sizeOf f.type) : Sem (Array (Nat × Nat))).run P w = .ok (fs.map fun f => (f.offset, (szOf P f.type).getD 0)) w := by
  rw [Array.mapM_eq_mapM_toList]
  have key : ∀ l : List Field, (∀ f ∈ l, ∃ n, szOf P f.type = some n) → (l.mapM fun f => do pure (f.offset, ← sizeOf f.type) : Sem (List (Nat × Nat))).run P w = .ok (l.map fun f => (f.offset, (szOf P f.type).getD 0)) w := by
    intro l
    induction l with
    | nil => intro _; rfl
    | cons f l ih =>
      intro hl
      obtain ⟨n, hn⟩ := hl f (by simp)
      rw [List.mapM_cons]
      simp only [Sem.run_bind, runSize hn, Result.andThen_ok, Sem.run_pure, ih (fun g hg => hl g (by simp [hg])), List.map_cons, hn, Option.getD_some]
  show Sem.run P (Bind.bind (fs.toList.mapM fun f => do pure (f.offset, ← sizeOf f.type) : Sem (List (Nat × Nat))) (pure ∘ List.toArray)) w = _
  rw [Sem.run_bind, key fs.toList (by simpa using h)]
  simp only [Result.andThen_ok, Function.comp, Sem.run_pure]
  congr 1
  apply Array.ext'
  simp
theorem aBuild_sound {t : TypeId} {parts : List (Nat × PV)} {vparts : List (Nat × Value)} {q : PV} (hlen : parts.length = vparts.length)
    (hp : ∀ (i : Nat) (x : Nat × PV) (y : Nat × Value), parts[i]? = some x → vparts[i]? = some y → x.1 = y.1 ∧ Rep G x.2 y.2) (h : aBuild P t parts = some q) (w : World) :
    ∃ r, (Instr.build t vparts.toArray).run P w = .ok r w ∧ Rep G q r := by
  have zrep : ∀ {z : Value}, (z.cells.toList.map PV.val).all PV.atomic = true → Rep G (.agg (z.cells.toList.map .val)) (.agg z.cells) := by
    intro z hat
    refine .agg (by simp) (fun j v hv => ?_) (fun j p v hj hv => ?_)
    · rw [List.all_eq_true] at hat
      exact atomic_val (hat (.val v) (List.mem_map.2 ⟨v, by simpa using Array.mem_of_getElem? hv, rfl⟩))
    · rw [List.getElem?_map] at hj
      simp only [Option.map_eq_some_iff] at hj
      obtain ⟨v', hv', rfl⟩ := hj
      rw [show v = v' by simpa [hv] using hv']
      exact .val _
  unfold aBuild at h
  split at h
  case h_3 => cases h
  · rename_i fs zs hu hz
    split at h
    case isFalse => cases h
    rename_i hc
    obtain ⟨hat, hall⟩ := hc
    have hsizes : ∀ f ∈ fs, ∃ n, szOf P f.type = some n := fun f hf => by
      rw [List.all_eq_true] at hall
      exact Option.isSome_iff_exists.1 (hall f (by simpa using hf))
    simp only [Option.map_eq_some_iff] at h
    obtain ⟨cells', hgo, rfl⟩ := h
    obtain ⟨z, hzr, rfl⟩ := runZero hz w
    obtain ⟨vs', hf, hr⟩ := aBuild_go_sound (G := G) fs (fun i => (fs.map fun f => (f.offset, (szOf P f.type).getD 0))[i]?) (fun i f sz h1 h2 => by simp [h1, h2]) parts vparts _ cells' z.cells hlen hp (zrep hat) hgo
    refine ⟨.agg vs', ?_, hr⟩
    simp only [Instr.build, Sem.run_bind, hzr, Result.andThen_ok, run_underlying hu]
    rw [run_mapM_sizes fs hsizes]
    simp only [Result.andThen_ok]
    rw [hf]
    simp
  · rename_i n e zs hu hz
    split at h
    case h_2 => cases h
    rename_i sz hsz
    split at h
    case isFalse => cases h
    rename_i hat
    simp only [Option.map_eq_some_iff] at h
    obtain ⟨cells', hgo, rfl⟩ := h
    obtain ⟨z, hzr, rfl⟩ := runZero hz w
    obtain ⟨vs', hf, hr⟩ := aBuild_go_sound (G := G) (arrFields n e sz) (fun i => some (i * sz, sz)) (fun i f s h1 h2 => by
      simp only [arrFields, Array.getElem?_map, Option.map_eq_some_iff] at h1
      obtain ⟨i', hi', rfl⟩ := h1
      have : i' = i := by
        rw [Array.getElem?_range] at hi'
        split at hi' <;> simp_all
      subst this
      simp only at h2 ⊢
      rw [hsz] at h2; cases h2; rfl) parts vparts _ cells' z.cells hlen hp (zrep hat) hgo
    refine ⟨.agg vs', ?_, hr⟩
    simp only [Instr.build, Sem.run_bind, hzr, Result.andThen_ok, run_underlying hu, runSize hsz]
    rw [hf]
    simp
end
set_option linter.unusedSimpArgs false
def amin (x y : PV) : Option PV := match x, y with
  | .val (.int k a), .val (.int k' b) => if k = k' then some (.val (.int k (if b < a then b else a))) else none
  | _, _ => none
@[simp] theorem amin_int (k : IntKind) (a b : Int) : amin (.val (.int k a)) (.val (.int k b)) = some (.val (.int k (if b < a then b else a))) := by simp [amin]
/-- A pointer to an array, out of a list of single cells. -/
def aArrayAt (P : Program) (arr : TypeId) (x : PV) : Option PV := match P.underlying arr, x with
  | some (.array n _), .slice c 1 rows => if 0 < n ∧ n ≤ rows.length then some (.rptr c (rows.take n).flatten) else none
  | _, _ => none
def amakeS (P : Program) (H : AS) (t : TypeId) (len cap : PV) : Option (PV × AS) := match P.underlying t, len, cap with
  | some (.slice e), .val (.int _ l), .val (.int _ c) => match szOf P e, zeroOf P e, bytesOf P e with
    | some sz, some zs, some by_ => if l = c ∧ 0 ≤ l ∧ l ≤ 2 ^ 47 ∧ (by_ : Int) * l ≤ 2 ^ 48 ∧ zs.length = sz ∧ zs.all PV.atomic = true then some (.msl H.next l.toNat sz, (H.setBox H.next (List.replicate l.toNat zs)).bump 1) else none
    | _, _, _ => none
  | _, _, _ => none
def bytesOfRows : List (List PV) → Option (List UInt8)
  | [] => some []
  | [.val (.int .u8 n)] :: rs => (bytesOfRows rs).map (UInt8.ofNat n.toNat :: ·)
  | _ => none
@[simp] theorem bytesOfRows_map (bs : List UInt8) : bytesOfRows (bs.map brow) = some bs := by
  induction bs with
  | nil => rfl
  | cons b bs ih => simp [bytesOfRows, brow] at ih ⊢; rw [ih]
/-- A text out of frozen bytes. -/
def aToString (P : Program) (s d : TypeId) (x : PV) : Option PV := match P.underlying s, P.underlying d, x with
  | some (.slice e), some .string, .slice _ z rows => match P.underlying e with
    | some (.int .u8) => if rows.isEmpty || z == 1 then (bytesOfRows rows).map fun bs => .val (.string ⟨bs.toArray⟩) else none
    | _ => none
  | _, _, _ => none
section
variable {P : Program} {G : Gh} {H : AS} {w : World}
theorem amin_sound {x y q : PV} {u v : Value} (hx : Rep G x u) (hy : Rep G y v) (h : amin x y = some q) (ts : Array TypeId) (ty : TypeId) (w : World) : ∃ r, (Builtin.min_ ts ty #[u, v]).run P w = .ok r w ∧ Rep G q r := by
  unfold amin at h
  split at h
  · split at h
    · rename_i e; subst e
      simp at h; subst h
      cases hx; cases hy
      exact ⟨_, by simp [Builtin.min_, Builtin.min2, Sem.run_pure], .val _⟩
    · cases h
  · cases h
theorem rows1_flatten {rows : List (List PV)} (h : ∀ r ∈ rows, r.length = 1) (k : Nat) (p : PV) : rows.flatten[k]? = some p ↔ ∃ r, rows[k]? = some r ∧ r[0]? = some p := by
  induction rows generalizing k with
  | nil => simp
  | cons r rs ih =>
    have h1 := h r (by simp)
    obtain ⟨x, rfl⟩ := List.length_eq_one_iff.1 h1
    cases k with
    | zero => simp
    | succ k => simpa using ih (fun r hr => h r (by simp [hr])) k
theorem aArrayAt_sound {arr : TypeId} {x q : PV} {u : Value} (hx : Rep G x u) (h : aArrayAt P arr x = some q) (w : World) : ∃ r, (Instr.arrayAt arr u).run P w = .ok r w ∧ Rep G q r := by
  unfold aArrayAt at h
  split at h
  · rename_i n e c rows hu
    split at h
    · rename_i hn
      simp at h; subst h
      cases hx with
      | slice vs hx h0 h1 h2 h3 h4 =>
        rename_i b o cap
        have ht1 : ∀ r ∈ rows.take n, r.length = 1 := fun r hr => by
          obtain ⟨i, hi⟩ := List.getElem?_of_mem (List.mem_of_mem_take hr)
          exact h1 i r hi
        have hrow : ∀ (k : Nat) (p : PV), (rows.take n).flatten[k]? = some p → ∃ r, rows[k]? = some r ∧ r[0]? = some p := fun k p hp => by
          obtain ⟨r, hr, h0⟩ := (rows1_flatten ht1 k p).1 hp
          rw [List.getElem?_take] at hr
          split at hr
          · exact ⟨r, hr, h0⟩
          · cases hr
        refine ⟨.pointer (some ⟨b, o, none⟩), ?_, .rptr (fun k => vs k 0) (fun k p hp => ?_) (fun k p hp => ?_) (fun k p hp => ?_)⟩
        · have : ¬ rows.length < n := by omega
          simp [Instr.arrayAt, run_underlying hu, this, Sem.run_pure]
        · obtain ⟨r, hr, hp0⟩ := hrow k p hp
          simpa using h2 k r 0 p hr hp0
        · obtain ⟨r, hr, hp0⟩ := hrow k p hp
          exact h3 k r 0 p hr hp0
        · obtain ⟨r, hr, hp0⟩ := hrow k p hp
          exact h4 k r 0 p hr hp0
      | nilSlice => simp at hn; omega
      | emptySlice => simp at hn; omega
    · cases h
  · cases h
theorem bytes_of_rows : ∀ {rows : List (List PV)} {bs : List UInt8}, bytesOfRows rows = some bs → ∃ ns : List Int, rows = ns.map (fun n => [.val (.int .u8 n)]) ∧ bs = ns.map fun n => UInt8.ofNat n.toNat := by
  intro rows
  induction rows with
  | nil => intro bs h; simp [bytesOfRows] at h; subst h; exact ⟨[], rfl, rfl⟩
  | cons r rs ih =>
    intro bs h
    unfold bytesOfRows at h
    split at h
    · rename_i e; cases e
    · rename_i n rs' e
      cases e
      simp only [Option.map_eq_some_iff] at h
      obtain ⟨bs', h', rfl⟩ := h
      obtain ⟨ns, rfl, rfl⟩ := ih h'
      exact ⟨n :: ns, rfl, rfl⟩
    · cases h
theorem aToString_sound (hr : Rel G H w) {s d : TypeId} {x q : PV} {u : Value} (hx : Rep G x u) (h : aToString P s d x = some q) : ∃ r, (convert s d u).run P w = .ok r w ∧ Rep G q r := by
  unfold aToString at h
  split at h
  · rename_i e c z rows hs hd
    split at h
    · rename_i he
      split at h
      · rename_i hz
        simp only [Option.map_eq_some_iff] at h
        obtain ⟨bs, hb, rfl⟩ := h
        obtain ⟨ns, rfl, rfl⟩ := bytes_of_rows hb
        have empty : ∀ (a : Option Addr) (cap : Nat), ns = [] → u = .slice a 0 cap → ∃ r, (convert s d u).run P w = .ok r w ∧ Rep G (.val (.string ⟨(ns.map fun n => UInt8.ofNat n.toNat).toArray⟩)) r := by
          intro a cap e1 e2
          subst e1; subst e2
          cases a with
          | none => exact ⟨_, run_convert_bytes_nil w s e hs he 0 cap d hd, .val _⟩
          | some a =>
            refine ⟨_, ?_, .val _⟩
            rw [run_convert_bytes_string w s d e _ 0 cap hs he hd, run_bytesToString w a 0 cap [] rfl]
            rfl
        generalize hrows : ns.map (fun n => [PV.val (.int .u8 n)]) = rows at hx hz
        cases hx with
        | nilSlice => exact empty none 0 (by simpa using hrows) rfl
        | emptySlice => exact empty _ _ (by simpa using hrows) rfl
        | slice vs hx h0 h1 h2 h3 h4 =>
          rename_i b o cap
          have hlen : rows.length = ns.length := by rw [← hrows]; simp
          by_cases hn : ns = []
          · exact empty _ _ hn (by rw [hlen, hn]; rfl)
          · have hz1 : z = 1 := by
              have : rows ≠ [] := by rw [← hrows]; simpa using hn
              simpa [this] using hz
            subst hz1
            refine ⟨_, run_convert_bytes_arg w s e hs he b o rows.length cap ns hlen.symm (fun i hi => ?_) d hd, .val _⟩
            have hi' : i < ns.length := by omega
            have hri : rows[i]? = some [.val (.int .u8 ns[i])] := by rw [← hrows]; simp [hi']
            have hcell := hr.cell (h2 i _ 0 _ hri rfl)
            have hv := rep_val (h4 i _ 0 _ hri rfl)
            rw [hv] at hcell
            simpa [List.getD, hi'] using hcell
      · cases h
    · cases h
  · cases h
def aToStringM (P : Program) (H : AS) (s d : TypeId) (x : PV) : Option PV := match P.underlying s, P.underlying d, x with
  | some (.slice e), some .string, .msl id len z => match P.underlying e, H.box id with
    | some (.int .u8), some rows => if rows.length = len ∧ z = 1 then (bytesOfRows rows).map fun bs => .val (.string ⟨bs.toArray⟩) else none
    | _, _ => none
  | some (.slice e), some .string, .val (.slice none 0 0) => match P.underlying e with
    | some (.int .u8) => some (.val (.string ⟨#[]⟩))
    | _ => none
  | _, _, _ => none
def aToBytes (P : Program) (H : AS) (s d : TypeId) (x : PV) : Option (PV × AS) := match P.underlying s, P.underlying d, x with
  | some .string, some (.slice e), .val (.string st) => match P.underlying e with
    | some (.int .u8) => some (.msl H.next st.size 1, (H.setBox H.next (st.data.toList.map brow)).bump 1)
    | _ => none
  | some (.slice _), some (.slice e), .msl id len z => match P.underlying e, H.box id with
    | some (.int .u8), some rows => if s = d ∧ rows.length = len then some (.msl id len z, H) else none
    | _, _ => none
  | _, _, _ => none
theorem setBox_self {H : AS} {id : Nat} {rows : List (List PV)} (h : H.box id = some rows) : H.setBox id rows = H := by
  cases H with
  | mk b m n c =>
    simp only [AS.setBox, AS.mk.injEq, and_true]
    funext i
    by_cases e : i = id
    · subst e; simp only [if_true]; exact h.symm
    · simp [e]
theorem fzOk_end {n : Nat} {fz : Nat × Nat} (h : FzOk n fz) : FzOk n (if fz.1 == fz.2 then (n, n + 1) else (min fz.1 n, max fz.2 (n + 1))) := by
  by_cases e : fz.1 = fz.2
  · simp [e]; exact .inr (Nat.le_refl _)
  · have h2 : n ≤ fz.1 := h.resolve_left e
    simp [e]; exact .inr (by show n ≤ min fz.1 n; omega)
theorem aToStringM_sound (hr : Rel G H w) {s d : TypeId} {x q : PV} {u : Value} (hx : Rep G x u) (h : aToStringM P H s d x = some q) : ∃ r, (convert s d u).run P w = .ok r w ∧ Rep G q r := by
  unfold aToStringM at h
  split at h
  · rename_i e id len z hs hd
    split at h
    · rename_i rows he hb
      split at h
      · rename_i hz
        obtain ⟨hlen, rfl⟩ := hz
        simp only [Option.map_eq_some_iff] at h
        obtain ⟨bs, hbs, rfl⟩ := h
        obtain ⟨ns, rfl, rfl⟩ := bytes_of_rows hbs
        cases hx with
        | msl hv =>
          rename_i b cap
          obtain ⟨b', s', cap', vs, el, fz, hv', hh, hfz, hcap, hlencap, hrows, hcells, h1c, hro⟩ := hr.box id _ hb
          rw [hlen, hv] at hv'
          obtain ⟨rfl, rfl, rfl⟩ : b = b' ∧ 1 = s' ∧ cap = cap' := by simpa using hv'
          have hl : ns.length = len := by simpa using hlen
          refine ⟨_, run_convert_bytes_arg w s e hs he b 0 len cap ns hl (fun i hi => ?_) d hd, .val _⟩
          have hi' : i < ns.length := by omega
          obtain ⟨v, e1, hrep⟩ := hcells i [.val (.int .u8 ns[i])] 0 (.val (.int .u8 ns[i])) (by simp [hi']) rfl
          have hv := rep_val hrep
          rw [Nat.zero_add, cell_of_block hh]
          simp only [Nat.mul_one, Nat.add_zero] at e1
          rw [e1, hv]
          simp [List.getD, hi']
      · cases h
    · cases h
  · rename_i e hs hd
    split at h
    · rename_i he
      simp at h; subst h
      cases hx
      exact ⟨_, run_convert_bytes_nil w s e hs he 0 0 d hd, .val _⟩
    · cases h
  · cases h
theorem aToBytes_sound (hr : Rel G H w) {s d : TypeId} {x q : PV} {u : Value} {H' : AS} (hx : Rep G x u) (h : aToBytes P H s d x = some (q, H')) :
    ∃ r w' G', (convert s d u).run P w = .ok r w' ∧ G.le G' ∧ Rel G' H' w' ∧ Rep G' q r := by
  unfold aToBytes at h
  split at h
  · rename_i e st hs hd
    split at h
    · rename_i he
      simp at h
      obtain ⟨rfl, rfl⟩ := h
      cases hx
      have hrun := run_bytes_of_string w s d e st hs hd he
      generalize hc : grownCap w st.size 0 e = cap at hrun
      have hcap : st.size ≤ cap := by rw [← hc]; simp [grownCap, Question.cut]
      have hsz : (bytesRow st cap).size = cap := by simp [bytesRow]; omega
      obtain ⟨hle, hrel, hview⟩ := hr.alloc (w' := w.drew.alloc (.cells (bytesRow st cap) e ((bytesRow st cap).size, (bytesRow st cap).size + 1))) (rows := st.data.toList.map brow) (sz := 1) (cap := cap) (vs := bytesRow st cap) (elem := e) (fz := ((bytesRow st cap).size, (bytesRow st cap).size + 1)) rfl ⟨rfl, rfl, rfl⟩
        (.inr (Nat.le_refl _)) (by rw [hsz]; simp) (by simpa using hcap) (fun r hr => by
          obtain ⟨b, _, rfl⟩ := List.mem_map.1 hr; rfl) (fun i r j p hi hj => by
          rw [List.getElem?_map] at hi
          simp only [Option.map_eq_some_iff] at hi
          obtain ⟨b, hb, rfl⟩ := hi
          cases j with
          | zero =>
            simp [brow] at hj; subst hj
            refine ⟨.int .u8 b.toNat, ?_, .val _⟩
            have hil : i < st.size := by have := (List.getElem?_eq_some_iff.1 hb).1; simpa using this
            have hb' : st.data[i]? = some b := by simpa using hb
            have hg : st.data[i]'(by simpa using hil) = b := by
              have := (Array.getElem?_eq_some_iff.1 hb').2; exact this
            simp [bytesRow, Array.getElem?_append, hil, hg]
          | succ j => simp [brow] at hj) (fun o v hv => by
          simp only [bytesRow, Array.getElem?_append] at hv
          split at hv
          · simp only [Array.getElem?_map, Option.map_eq_some_iff] at hv
            obtain ⟨b, _, rfl⟩ := hv; rfl
          · have := Array.mem_of_getElem? hv
            simp at this
            rw [this.2]; rfl)
      refine ⟨_, _, _, hrun, hle, hrel, ?_⟩
      have := Rep.msl (sz := 1) hview
      simpa using this
    · cases h
  · rename_i e id len z hs hd
    split at h
    · rename_i rows he hb
      split at h
      · rename_i hz
        obtain ⟨rfl, hlen⟩ := hz
        simp at h
        obtain ⟨rfl, rfl⟩ := h
        cases hx with
        | msl hv =>
          rename_i b cap
          obtain ⟨b', s', cap', vs, el, fz, hv', hh, hfz, hcap, hlc, hrows, hcells, h1c, hro⟩ := hr.box id _ hb
          have hv2 := hv'
          rw [hlen, hv] at hv'
          obtain ⟨rfl, rfl, rfl⟩ : b = b' ∧ z = s' ∧ cap = cap' := by simpa using hv'
          have hsh : w.shape? b = some (el, vs.size) := by unfold World.shape?; rw [hh]
          have hrun : (convert s s (.slice (some ⟨b, 0, none⟩) len cap)).run P w = .ok (.slice (some ⟨b, 0, none⟩) len cap) (w.freeze ⟨b, vs.size, none⟩ 1) := by
            simp [convert, run_underlying hd, run_underlying he, markStringish, hsh]
          have hfr : (w.freeze ⟨b, vs.size, none⟩ 1).heap[b]? = some (.cells vs el (if fz.1 == fz.2 then (vs.size, vs.size + 1) else (min fz.1 vs.size, max fz.2 (vs.size + 1)))) := by
            unfold World.freeze; simp [Array.getElem?_modify, hh]
          have hw : ∀ b', b' ≠ b → (w.freeze ⟨b, vs.size, none⟩ 1).heap[b']? = w.heap[b']? := fun b' hne => by
            unfold World.freeze; simp [Array.getElem?_modify, Ne.symm hne]
          refine ⟨_, _, G, hrun, .refl G, ?_, .msl hv⟩
          have := hr.write hb rfl (w' := w.freeze ⟨b, vs.size, none⟩ 1) ⟨b, z, cap, vs, el, _, hv2, hfr, fzOk_end hfz, hcap, hlc, hrows, hcells, h1c, hro⟩ hv2 hw ⟨rfl, rfl, rfl⟩ hro ⟨_, _, _, hh⟩
          rwa [setBox_self hb] at this
      · cases h
    · cases h
  · cases h
theorem amakeS_sound (h : Rel G H w) {t : TypeId} {len cap q : PV} {u v : Value} {H' : AS} (hl : Rep G len u) (hc : Rep G cap v) (ha : amakeS P H t len cap = some (q, H')) :
    ∃ r w' G', (Instr.makeSlice t u v).run P w = .ok r w' ∧ G.le G' ∧ Rel G' H' w' ∧ Rep G' q r := by
  unfold amakeS at ha
  split at ha
  · rename_i e k l k' c hu
    split at ha
    · rename_i sz zs by_ hsz hz hby
      split at ha
      · rename_i hcond
        obtain ⟨rfl, h0, h47, hb48, hzl, hzat⟩ := hcond
        simp at ha
        obtain ⟨rfl, rfl⟩ := ha
        cases hl; cases hc
        unfold szOf at hsz
        unfold bytesOf at hby
        unfold zeroOf at hz
        cases hi : P.info? e with
        | none => simp [hi] at hsz
        | some i =>
          simp [hi] at hsz hby hz
          obtain ⟨z, hzz, rfl⟩ := hz
          subst hsz; subst hby
          have hrun := run_make (P := P) w t e i z hu hi hzz k k' l l h0 (Int.le_refl _) (by omega) (by omega)
          have hzs : z.cells.size = i.size := by simpa using hzl
          have hone : ∀ (o : Nat) (v : Value), z.cells[o]? = some v → v.oneCell' = true := fun o v hv => by
            rw [List.all_eq_true] at hzat
            exact atomic_val (hzat (.val v) (List.mem_map.2 ⟨v, by simpa using Array.mem_of_getElem? hv, rfl⟩))
          have hcell : ∀ k, k < l.toNat * i.size → ∃ v, (madeCells z.cells (l.toNat * i.size))[k]? = some v ∧ z.cells[k % i.size]? = some v := fun k hk => by
            have hpos : 0 < i.size := Nat.pos_of_ne_zero fun e => by simp [e] at hk
            have hlt : k % i.size < z.cells.size := by rw [hzs]; exact Nat.mod_lt _ hpos
            refine ⟨z.cells[k % i.size], ?_, by simp [hlt]⟩
            simp [madeCells, hk, hzs, hlt]
            exact getElem!_pos z.cells _ hlt
          obtain ⟨hle, hrel, hview⟩ := h.alloc (w' := w.alloc (.cells (madeCells z.cells (l.toNat * i.size)) e)) (rows := List.replicate l.toNat (z.cells.toList.map .val)) (sz := i.size) (cap := l.toNat) (vs := madeCells z.cells (l.toNat * i.size)) (elem := e) (fz := (0, 0)) rfl ⟨rfl, rfl, rfl⟩
            (.inl rfl) (by rw [size_madeCells]; exact Nat.le_refl _) (by simp) (fun r hr => by rw [List.eq_of_mem_replicate hr]; simpa using hzl) (fun a r j p hi hj => by
              have hr := List.eq_of_mem_replicate (List.mem_of_getElem? hi)
              have ha : a < l.toNat := by have := (List.getElem?_eq_some_iff.1 hi).1; simpa using this
              subst hr
              rw [List.getElem?_map] at hj
              simp only [Option.map_eq_some_iff] at hj
              obtain ⟨v, hv, rfl⟩ := hj
              have hj' : j < i.size := by rw [← hzs]; have := (List.getElem?_eq_some_iff.1 hv).1; simpa using this
              have hk : a * i.size + j < l.toNat * i.size := by
                have := Nat.mul_le_mul_right i.size (show a + 1 ≤ l.toNat from ha)
                rw [Nat.add_mul, Nat.one_mul] at this; omega
              obtain ⟨v', e1, e2⟩ := hcell _ hk
              rw [Nat.mul_comm, Nat.mul_add_mod, Nat.mod_eq_of_lt hj'] at e2
              have : v' = v := by
                have h3 : z.cells[j]? = some v := by simpa using hv
                rw [e2] at h3; simpa using h3
              subst this
              exact ⟨v', by rw [Nat.mul_comm]; rw [Nat.mul_comm] at e1; exact e1, .val _⟩) (fun o v hv => by
              have ho : o < l.toNat * i.size := by rw [← size_madeCells z.cells (l.toNat * i.size)]; exact (Array.getElem?_eq_some_iff.1 hv).1
              obtain ⟨v', e1, e2⟩ := hcell _ ho
              rw [e1] at hv; cases hv
              exact hone _ _ e2)
          simp only [List.length_replicate] at hle hrel hview
          generalize G.addView _ _ _ _ _ _ = G2 at hle hrel hview
          exact ⟨_, _, G2, hrun, hle, hrel, .msl hview⟩
      · cases ha
    · cases ha
  · cases ha
end

open Go.MapKept
set_option linter.unusedSimpArgs false
def strKey : Value → Option ByteArray
  | .string s => some s
  | _ => none
theorem beq_bytes (a b : ByteArray) : (a == b) = decide (a = b) := by
  rw [beq_toListBytes, ByteArray.toList_eq, ByteArray.toList_eq, Bool.eq_iff_iff]
  simp only [beq_iff_eq, decide_eq_true_eq]
  constructor
  · intro h; cases a; cases b; congr 1; exact Array.ext' h
  · rintro rfl; rfl
def amakeMap (P : Program) (H : AS) (t : TypeId) : Option (PV × AS) := match P.underlying t with
  | some (.map _ _) => some (.map H.next, (H.setMap H.next []).bump 1)
  | _ => none
def keyAt (es : List (Value × PV)) (s : ByteArray) : Option Nat := es.findIdx? fun x => decide (strKey x.1 = some s)
def strMap (P : Program) (H : AS) (t : TypeId) (m : PV) : Option (Nat × List (Value × PV)) := match P.underlying t, m with
  | some (.map kt _), .map id => match P.underlying kt, H.mp id with
    | some .string, some es => if es.all (fun x => (strKey x.1).isSome) then some (id, es) else none
    | _, _ => none
  | _, _ => none
def zeroOk (P : Program) (t : TypeId) : Bool := match P.underlying t with
  | some (.map _ e) => (zeroOf P e).isSome
  | _ => false
/-- What comes out where the key is not there: nothing where the elements take no cells, else whatever. -/
def missing (P : Program) (t : TypeId) : PV := match P.underlying t with
  | some (.map _ e) => match zeroOf P e with
    | some [] => .agg []
    | _ => .junk
  | _ => .junk
/-- A look into a map of texts: what is not there comes out as whatever. -/
def aLookup (P : Program) (H : AS) (t : TypeId) (m k : PV) (ok : Bool) : Option PV := match strMap P H t m, k with
  | some (_, es), .val (.string s) => if zeroOk P t = true then
    let r : PV × Bool := match keyAt es s with
      | some i => (((es[i]?).map (·.2)).getD .junk, true)
      | none => (missing P t, false)
    some (if ok then .tuple [r.1, .val (.bool r.2)] else r.1) else none
  | _, _ => none
def aMapUpdate (P : Program) (H : AS) (t : TypeId) (m k v : PV) : Option AS := match strMap P H t m, k with
  | some (id, es), .val (.string s) => some (H.setMap id (match keyAt es s with
    | some i => es.set i (.string s, v)
    | none => es ++ [(.string s, v)]))
  | _, _ => none
section
variable {P : Program} {G : Gh} {H : AS} {w : World}
theorem findNow_spec (s : ByteArray) : ∀ (es : List (Value × PV)) (l : List MapEntry) (i0 : Nat), l.length = es.length → (∀ (j : Nat) (e : Value × PV) (m : MapEntry), es[j]? = some e → l[j]? = some m → m.key = e.1) → es.all (fun x => (strKey x.1).isSome) = true →
    Instr.findNow .string (.string s) l i0 = some (match keyAt es s with | some j => (l[j]?).map fun m => (i0 + j, m.val) | none => none) := by
  intro es
  induction es with
  | nil => intro l i0 hl _ _; rw [List.length_eq_zero_iff.1 hl]; rfl
  | cons e es ih =>
    intro l i0 hl hk hall
    cases l with
    | nil => simp at hl
    | cons m l =>
      simp only [List.all_cons, Bool.and_eq_true] at hall
      have h0 := hk 0 e m rfl rfl
      obtain ⟨a, ha⟩ := Option.isSome_iff_exists.1 hall.1
      have hm : m.key = .string a := by
        rw [h0]
        revert ha; cases e.1 <;> simp [strKey]
      have ih' := ih l (i0 + 1) (by simpa using hl) (fun j e m h1 h2 => hk (j + 1) e m (by simpa using h1) (by simpa using h2)) hall.2
      unfold Instr.findNow
      rw [hm]
      simp only [Instr.sameNow, keyAt, List.findIdx?_cons, ha]
      rw [beq_bytes]
      by_cases hs : s = a
      · subst hs; simp
      · have h2 : ¬ a = s := fun e => hs e.symm
        simp only [hs, h2, decide_false, ih', keyAt, Option.some.injEq, Bool.false_eq_true, if_false]
        cases hf : List.findIdx? (fun x => decide (strKey x.1 = some s)) es with
        | none => simp
        | some j => simp [Nat.add_assoc, Nat.add_comm 1 j]
theorem strMap_spec {t : TypeId} {m : PV} {u : Value} (h : Rel G H w) (hm : Rep G m u) {id : Nat} {es : List (Value × PV)} (hs : strMap P H t m = some (id, es)) :
    ∃ (kt et : TypeId) (b : Nat) (ents : Array MapEntry) (clock : Nat), P.underlying t = some (.map kt et) ∧ P.underlying kt = some .string ∧ u = .map (some b) ∧ H.mp id = some es ∧ G.mview id = some b ∧ w.heap[b]? = some (.map ents clock) ∧
      ents.size = es.length ∧ (∀ (i : Nat) (e : Value × PV) (m : MapEntry), es[i]? = some e → ents[i]? = some m → m.key = e.1 ∧ Rep G e.2 m.val) ∧ G.ro b = none ∧ es.all (fun x => (strKey x.1).isSome) = true := by
  unfold strMap at hs
  split at hs
  · rename_i kt et id' hu
    split at hs
    · rename_i es' hk he
      split at hs
      · rename_i hall
        simp at hs
        obtain ⟨rfl, rfl⟩ := hs
        obtain ⟨b, ents, clock, hv, hh, hsz, hc, hro⟩ := h.mp _ _ he
        cases hm with
        | map hv' =>
          rw [hv] at hv'; cases hv'
          exact ⟨kt, et, b, ents, clock, hu, hk, rfl, he, hv, hh, hsz, hc, hro, hall⟩
      · cases hs
    · cases hs
  · cases hs
theorem aLookup_sound (h : Rel G H w) {t : TypeId} {m k q : PV} {u v : Value} {ok : Bool} (hm : Rep G m u) (hk : Rep G k v) (hl : aLookup P H t m k ok = some q) :
    ∃ r, (Instr.lookup t u v ok).run P w = .ok r w ∧ Rep G q r := by
  unfold aLookup at hl
  split at hl
  case h_2 => cases hl
  rename_i id es s hs
  split at hl
  case isFalse => cases hl
  rename_i hze
  · simp at hl
    obtain ⟨kt, et, b, ents, clock, hu, hkt, rfl, he, hv, hh, hsz, hc, hro, hall⟩ := strMap_spec h hm hs
    cases hk
    have hfind := findNow_spec s es ents.toList 0 (by simpa using hsz) (fun j e m h1 h2 => (hc j e m h1 (by simpa using h2)).1) hall
    obtain ⟨z, hz, hzm⟩ : ∃ z, (zeroValue et).run P w = .ok z w ∧ Rep G (missing P t) z := by
      unfold zeroOk at hze
      rw [hu] at hze
      obtain ⟨zs, hzs⟩ := Option.isSome_iff_exists.1 hze
      obtain ⟨z, h1, h2⟩ := runZero hzs w
      refine ⟨z, h1, ?_⟩
      unfold missing
      rw [hu]
      dsimp only
      rw [hzs]
      cases zs with
      | nil =>
        have h3 : z.cells.toList = [] := by simpa using h2.symm
        cases z with
        | agg cs =>
          have : cs = #[] := by simpa [Value.cells] using h3
          subst this
          exact .agg rfl (fun j v hv => by simp at hv) (fun j p v hp => by simp at hp)
        | _ => simp [Value.cells] at h3
      | cons => exact .junk _
    have hgo : (getObj b).run P w = .ok (.map ents clock) w := by simp [getObj, Sem.run, hh]
    have hck : ∀ e, (Instr.checkKey e 10000 kt (.string s)).run P w = .ok () w := fun e => run_checkKey (n := 9999) hkt (by simp [IsKey]) e
    have hfk := run_findKey (P := P) (w := w) hkt hfind
    cases hka : keyAt es s with
    | none =>
      rw [hka] at hl hfk
      simp at hl
      refine ⟨if ok then .tuple #[z, .bool false] else z, ?_, ?_⟩
      · simp [Instr.lookup, run_underlying hu, hgo, hck, hfk, hz, Sem.run_pure]
      · subst hl
        cases ok
        · exact hzm
        · refine .tuple rfl fun j p v hp hv => ?_
          match j with
          | 0 => simp at hp hv; subst hp; subst hv; exact hzm
          | 1 => simp at hp hv; subst hp; subst hv; exact .val _
          | j + 2 => simp at hp
    | some i =>
      rw [hka] at hl hfk
      have hi : i < es.length := by
        unfold keyAt at hka
        exact (List.findIdx?_eq_some_iff_findIdx_eq.1 hka).1
      have hi' : i < ents.size := by omega
      obtain ⟨_, hrep⟩ := hc i es[i] ents[i] (List.getElem?_eq_getElem hi) (Array.getElem?_eq_getElem hi')
      simp [hi'] at hfk
      simp [hi] at hl
      refine ⟨if ok then .tuple #[ents[i].val, .bool true] else ents[i].val, ?_, ?_⟩
      · simp [Instr.lookup, run_underlying hu, hgo, hck, hfk, Sem.run_pure]
      · subst hl
        cases ok
        · exact hrep
        · refine .tuple rfl fun j p v hp hv => ?_
          match j with
          | 0 => simp at hp hv; subst hp; subst hv; exact hrep
          | 1 => simp at hp hv; subst hp; subst hv; exact .val _
          | j + 2 => simp at hp
theorem Rel.setMap' (h : Rel G H w) {id b : Nat} {es es' : List (Value × PV)} {ents' : Array MapEntry} {clock' : Nat} {ents : Array MapEntry} {clock : Nat} (he : H.mp id = some es) (hv : G.mview id = some b) (hh : w.heap[b]? = some (.map ents clock)) (hro : G.ro b = none)
    (hsz : ents'.size = es'.length) (hc : ∀ (i : Nat) (e : Value × PV) (m : MapEntry), es'[i]? = some e → ents'[i]? = some m → m.key = e.1 ∧ Rep G e.2 m.val) : Rel G (H.setMap id es') { w with heap := w.heap.setIfInBounds b (.map ents' clock') } := by
  obtain ⟨hb1, hb2⟩ := heap_set (o' := .map ents' clock') hh
  have other : ∀ x o, x ≠ b → w.heap[x]? = some o → (w.heap.setIfInBounds b (.map ents' clock'))[x]? = some o := fun x o hx e => by rw [hb2 x hx]; exact e
  refine ⟨h.next, fun x c o e => ?_, fun i r hi => ?_, h.inj, fun i ei hi => ?_, fun i j ri rj x hi hj e1 e2 => ?_, h.vmax, h.dom, h.mdom, h.os, h.out, h.tape, h.base, h.exok⟩
  · have : x ≠ b := fun e' => by subst e'; rw [hro] at e; cases e
    exact other x _ this (h.ro _ _ _ e)
  · obtain ⟨x, sz, cap, vs, elem, fz, g1, g2, g3⟩ := h.box i r hi
    have : x ≠ b := fun e' => by subst e'; rw [hh] at g2; cases g2
    exact ⟨x, sz, cap, vs, elem, fz, g1, other x _ this g2, g3⟩
  · simp only [setMap_mp] at hi
    split at hi
    · rename_i e; subst e; cases hi
      exact ⟨b, ents', clock', hv, hb1, hsz, hc, hro⟩
    · rename_i hne
      obtain ⟨x, en, cl, g1, g2, g3⟩ := h.mp i ei hi
      have : x ≠ b := fun e' => by subst e'; exact hne (h.minj i id ei es x hi he g1 hv)
      exact ⟨x, en, cl, g1, other x _ this g2, g3⟩
  · simp only [setMap_mp] at hi hj
    have key : ∀ k rk, (if k = id then some es' else H.mp k) = some rk → ∃ r0, H.mp k = some r0 := by
      intro k rk hk
      split at hk
      · rename_i e; subst e; exact ⟨es, he⟩
      · exact ⟨rk, hk⟩
    obtain ⟨r1, q1⟩ := key i ri hi
    obtain ⟨r2, q2⟩ := key j rj hj
    exact h.minj i j r1 r2 x q1 q2 e1 e2
theorem aMapUpdate_sound (h : Rel G H w) {t : TypeId} {m k p : PV} {u v x : Value} {H' : AS} (hm : Rep G m u) (hk : Rep G k v) (hp : Rep G p x) (hl : aMapUpdate P H t m k p = some H') :
    ∃ w', (Instr.mapUpdate t u v x).run P w = .ok () w' ∧ Rel G H' w' := by
  unfold aMapUpdate at hl
  split at hl
  · rename_i id es s hs
    simp at hl
    obtain ⟨kt, et, b, ents, clock, hu, hkt, rfl, he, hv, hh, hsz, hc, hro, hall⟩ := strMap_spec h hm hs
    cases hk
    have hfind := findNow_spec s es ents.toList 0 (by simpa using hsz) (fun j e m h1 h2 => (hc j e m h1 (by simpa using h2)).1) hall
    have hgo : (getObj b).run P w = .ok (.map ents clock) w := by simp [getObj, Sem.run, hh]
    have hck : (Instr.checkKey false 10000 kt (.string s)).run P w = .ok () w := run_checkKey (n := 9999) hkt (by simp [IsKey]) false
    have hfk := run_findKey (P := P) (w := w) hkt hfind
    have hso : ∀ o, (setObj b o).run P w = .ok () { w with heap := w.heap.setIfInBounds b o } := fun o => run_setObj_map o hh
    cases hka : keyAt es s with
    | none =>
      rw [hka] at hl hfk
      simp at hl hfk
      refine ⟨_, by simp [Instr.mapUpdate, run_underlying hu, hgo, hck, hfk, hso]; rfl, ?_⟩
      subst hl
      refine h.setMap' he hv hh hro (by simp [hsz]) fun i e m hi hj => ?_
      by_cases hlt : i < es.length
      · rw [List.getElem?_append_left hlt] at hi
        rw [Array.getElem?_push, if_neg (by omega)] at hj
        exact hc i e m hi hj
      · rw [List.getElem?_append_right (by omega)] at hi
        have : i = es.length := by
          have := (List.getElem?_eq_some_iff.1 hi).1
          simp at this; omega
        subst this
        simp at hi
        rw [Array.getElem?_push, if_pos hsz.symm] at hj
        simp at hj
        subst hi; subst hj
        exact ⟨rfl, hp⟩
    | some i =>
      rw [hka] at hl hfk
      have hka' := List.findIdx?_eq_some_iff_findIdx_eq.1 hka
      have hi : i < es.length := hka'.1
      have hi' : i < ents.size := by omega
      have hkey : es[i].1 = .string s := by
        have h1 := List.findIdx_getElem (w := hka'.2 ▸ hi)
        simp only [hka'.2, decide_eq_true_eq] at h1
        revert h1
        cases es[i].1 <;> simp [strKey]
      obtain ⟨hk0, hrep⟩ := hc i es[i] ents[i] (List.getElem?_eq_getElem hi) (Array.getElem?_eq_getElem hi')
      rw [hkey] at hk0
      simp [hi'] at hfk
      simp at hl
      have hsame : Instr.sameBits 10000 (.string s) (.string s) = true := by
        show (s == s) = true
        rw [beq_bytes]; simp
      refine ⟨_, by simp [Instr.mapUpdate, run_underlying hu, hgo, hck, hfk, hso, hi', hk0, Instr.keyThatStays, hsame, Sem.run_pure]; rfl, ?_⟩
      subst hl
      refine h.setMap' he hv hh hro (by simp [hsz]) fun j e m hj hm => ?_
      rw [Array.getElem?_modify] at hm
      rw [List.getElem?_set] at hj
      split at hm
      · rename_i e1
        subst e1
        simp [hi, hi'] at hj hm
        subst hj; subst hm
        exact ⟨rfl, hp⟩
      · rename_i e1
        rw [if_neg e1] at hj
        exact hc j e m hj hm
  · cases hl
theorem amakeMap_sound (h : Rel G H w) {t : TypeId} {q : PV} {H' : AS} (ha : amakeMap P H t = some (q, H')) :
    ∃ v w' G', (Instr.makeMap t none).run P w = .ok v w' ∧ G.le G' ∧ Rel G' H' w' ∧ Rep G' q v := by
  unfold amakeMap at ha
  split at ha
  · simp at ha
    obtain ⟨rfl, rfl⟩ := ha
    have hnone : G.mview H.next = none := by
      cases e : G.mview H.next with
      | none => rfl
      | some x => have := h.mdom _ _ e; rw [h.next] at this; omega
    let G' : Gh := { G with mview := fun i => if i = H.next then some w.heap.size else G.mview i, next := H.next + 1 }
    have hle : G.le G' := ⟨fun _ _ e => e, fun _ _ _ e => e, fun i x e => by
      show (if i = H.next then _ else G.mview i) = some x
      split
      · rename_i c; subst c; rw [hnone] at e; cases e
      · exact e, by show G.next ≤ H.next + 1; rw [h.next]; omega, rfl, fun _ _ e => e, fun _ _ _ => rfl⟩
    have hget : ∀ (b : Nat) (o : Obj), w.heap[b]? = some o → (w.alloc (.map #[] 0)).heap[b]? = some o := fun b o e => by
      have hlt := (Array.getElem?_eq_some_iff.1 e).1
      exact ((heap_alloc w (.map #[] 0)).2 b hlt).trans e
    have hmn : H.mp H.next = none := by
      cases e : H.mp H.next with
      | none => rfl
      | some r => have := (h.wf.mp _ _ e).1; omega
    have hronew : G.ro w.heap.size = none := by
      cases e : G.ro w.heap.size with
      | none => rfl
      | some x => obtain ⟨c, o⟩ := x; have := (Array.getElem?_eq_some_iff.1 (h.ro _ _ _ e)).1; omega
    have hlt : ∀ i x es, H.mp i = some es → G.mview i = some x → x < w.heap.size := fun i x es he hv => by
      obtain ⟨b, en, cl, g1, g2, -⟩ := h.mp i es he
      rw [hv] at g1; cases g1
      exact (Array.getElem?_eq_some_iff.1 g2).1
    have hG'n : G'.mview H.next = some w.heap.size := by simp [G']
    have hG'o : ∀ i, i ≠ H.next → G'.mview i = G.mview i := fun i hi => by simp [G', hi]
    refine ⟨.map (some w.heap.size), _, G', rfl, hle, ⟨rfl, fun b c o e => hget _ _ (h.ro _ _ _ e), fun i r hi => (h.box i r hi).mono hle (fun _ => rfl) hget, h.inj, fun i es hi => ?_, fun i j ri rj b hi hj e1 e2 => ?_, h.vmax, fun i l x e => ?_, fun i x e => ?_, h.os, h.out, h.tape, h.base.mono hle, ⟨h.exok.all, h.exok.ro⟩⟩, .map hG'n⟩
    · simp only [bump_mp, setMap_mp] at hi
      split at hi
      · rename_i e; subst e; cases hi
        exact ⟨w.heap.size, #[], 0, hG'n, (heap_alloc w (.map #[] 0)).1, rfl, fun i e m hi => by simp at hi, hronew⟩
      · exact (h.mp i es hi).mono hle (fun _ => rfl) hget
    · simp only [bump_mp, setMap_mp] at hi hj
      by_cases h1 : i = H.next
      · by_cases h2 : j = H.next
        · omega
        · rw [if_neg h2] at hj
          rw [hG'o _ h2] at e2
          subst h1; rw [hG'n] at e1; cases e1
          have := hlt _ _ _ hj e2; omega
      · rw [if_neg h1] at hi
        rw [hG'o _ h1] at e1
        by_cases h2 : j = H.next
        · subst h2; rw [hG'n] at e2; cases e2
          have := hlt _ _ _ hi e1; omega
        · rw [if_neg h2] at hj
          rw [hG'o _ h2] at e2
          exact h.minj i j ri rj b hi hj e1 e2
    · have := h.dom i l x e; rw [h.next] at this; show i < H.next + 1; omega
    · by_cases h1 : i = H.next
      · subst h1; show H.next < H.next + 1; omega
      · rw [hG'o _ h1] at e; have := h.mdom i x e; rw [h.next] at this; show i < H.next + 1; omega
  · cases ha
end
end Go.Abs
