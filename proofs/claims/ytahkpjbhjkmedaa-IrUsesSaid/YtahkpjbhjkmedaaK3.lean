/- The abstract layer, part 3: the operations on abstract values are those of the model (reads). -/
import Derived.Test.YtahkpjbhjkmedaaK2
import Derived.ChangeKeysEq
import Derived.Laws.Cells
import Derived.Laws.IdiomCopy
namespace Go.Abs
set_option autoImplicit false

section
variable {P : Program} {G : Gh} {H : AS} {w : World}

theorem runSize {t : TypeId} {n : Nat} (h : szOf P t = some n) (w : World) : (sizeOf t).run P w = .ok n w := by
  unfold szOf at h
  cases hi : P.info? t with
  | none => simp [hi] at h
  | some i => simp [hi] at h; simp [sizeOf, run_typeInfo w hi, h]

theorem runBytes {t : TypeId} {n : Nat} (h : bytesOf P t = some n) (w : World) : ∃ i, (typeInfo t).run P w = .ok i w ∧ i.bytes = n := by
  unfold bytesOf at h
  cases hi : P.info? t with
  | none => simp [hi] at h
  | some i => simp [hi] at h; exact ⟨i, run_typeInfo w hi, h⟩

theorem runAgg {t : TypeId} {b : Bool} (h : aggOf P t = some b) (w : World) : (isAgg t).run P w = .ok b w := by
  unfold aggOf at h
  cases hu : P.underlying t with
  | none => simp [hu] at h
  | some d => cases d <;> simp [hu] at h <;> simp [isAgg, run_underlying hu, h]

theorem runZero {t : TypeId} {cs : List PV} (h : zeroOf P t = some cs) (w : World) : ∃ z : Value, (zeroValue t).run P w = .ok z w ∧ cs = z.cells.toList.map .val := by
  unfold zeroOf at h
  cases hi : P.info? t with
  | none => simp [hi] at h
  | some i =>
    cases hz : i.zero with
    | none => simp [hi, hz] at h
    | some z => simp [hi, hz] at h; exact ⟨z, by simp [zeroValue, run_typeInfo w hi, hz], by simp [h]⟩

/-- A stretch of cells that represents a row. -/
def RowAt (G : Gh) (f : Nat → Option Value) (r : List PV) : Prop := ∀ (j : Nat) (p : PV), r[j]? = some p → ∃ v, f j = some v ∧ v.oneCell' = true ∧ Rep G p v

theorem RowAt.sub {f : Nat → Option Value} {r : List PV} (h : RowAt G f r) (off n : Nat) : RowAt G (fun j => f (off + j)) ((r.drop off).take n) := by
  intro j p hp
  rw [List.getElem?_take] at hp
  split at hp
  · rw [List.getElem?_drop] at hp; exact h _ _ hp
  · cases hp

/-- A row as an array of values. -/
theorem RowAt.values {f : Nat → Option Value} {r : List PV} (h : RowAt G f r) : ∃ vs : Nat → Value, ∀ (j : Nat) (p : PV), r[j]? = some p → f j = some (vs j) ∧ (vs j).oneCell' = true ∧ Rep G p (vs j) := by
  refine ⟨fun j => (f j).getD undef, fun j p hp => ?_⟩
  obtain ⟨v, e, h1, hr⟩ := h j p hp
  simp [e, h1, hr]

theorem Rep.aggOf {r : List PV} {vs : Nat → Value} (h : ∀ (j : Nat) (p : PV), r[j]? = some p → (vs j).oneCell' = true ∧ Rep G p (vs j)) : Rep G (.agg r) (.agg ((List.range r.length).map vs).toArray) := by
  refine .agg (by simp) (fun j v hv => ?_) fun j p v hp hv => ?_
  · by_cases hj : j < r.length
    · simp [hj] at hv
      subst hv
      exact (h j _ (List.getElem?_eq_getElem hj)).1
    · simp [hj] at hv
  · have hj : j < r.length := (List.getElem?_eq_some_iff.1 hp).1
    simp [hj] at hv
    subst hv
    exact (h j p hp).2

theorem partOf_load {t : TypeId} {r : List PV} {off : Nat} {q : PV} (h : partOf P t r off = some q) {a : Addr} (hr : RowAt G (fun j => w.cell? (a.add j)) (r.drop off)) :
    ∃ v, (loadVar t a).run P w = .ok v w ∧ Rep G q v := by
  unfold partOf at h
  split at h
  · rename_i sz ha hs
    split at h
    · rename_i hle
      simp at h
      obtain ⟨vs, hvs⟩ := (hr.sub 0 sz).values
      simp only [Nat.zero_add, List.drop_zero] at hvs
      have hlen : ((r.drop off).take sz).length = sz := by simp; omega
      refine ⟨.agg ((List.range sz).map vs).toArray, ?_, ?_⟩
      · have hl := run_loadCells (P := P) w a sz vs (fun j hj => by
          have : j < ((r.drop off).take sz).length := by omega
          exact (hvs j _ (List.getElem?_eq_getElem this)).1)
        simp [loadVar, runAgg ha, runSize hs, hl]
      · rw [← h]
        have := Rep.aggOf (G := G) (r := (r.drop off).take sz) (vs := vs) (fun j p hp => (hvs j p hp).2)
        rwa [hlen] at this
    · cases h
  · rename_i _ ha
    obtain ⟨v, e, _, hrep⟩ := hr 0 q (by simpa using h)
    refine ⟨v, ?_, hrep⟩
    have e' : w.cell? a = some v := by simpa [Addr.add] using e
    simp [loadVar, runAgg ha, e']
  · cases h

theorem addr_add (b o j : Nat) : (⟨b, o, none⟩ : Addr).add j = ⟨b, o + j, none⟩ := by
  unfold Addr.add
  split <;> simp_all

theorem cell_of_block {b o : Nat} {vs : Array Value} {e : TypeId} {fz : Nat × Nat} (h : w.heap[b]? = some (.cells vs e fz)) : w.cell? ⟨b, o, none⟩ = vs[o]? := by
  simp [World.cell?, h]

theorem Rel.cell (h : Rel G H w) {c b o : Nat} {v : Value} (e : G.cell c b o = some v) : w.cell? ⟨b, o, none⟩ = some v := by
  unfold Gh.cell at e
  cases hr : G.ro b with
  | none => simp [hr] at e
  | some x =>
    obtain ⟨c', ob⟩ := x
    rw [hr] at e
    cases ob <;> simp at e
    rw [cell_of_block (h.ro _ _ _ hr)]
    exact e.2

/-- Where a pointer to a live box leads. -/
theorem Rel.at_ptr (h : Rel G H w) {id vl row off : Nat} {rows : List (List PV)} {r : List PV} {v : Value} (hr : Rep G (.ptr id vl row off) v) (hb : H.box id = some rows) (hl : rows.length = vl)
    (hrow : rows[row]? = some r) : ∃ b o, v = .pointer (some ⟨b, o, none⟩) ∧ RowAt G (fun j => w.cell? ⟨b, o + j, none⟩) (r.drop off) := by
  cases hr with
  | ptr hv =>
    rename_i b sz cap
    obtain ⟨b', sz', cap', vs, elem, fz, hv', hh, _, _, _, _, hc, h1c, _⟩ := h.box id rows hb
    rw [hl, hv] at hv'
    obtain ⟨rfl, rfl, rfl⟩ : b = b' ∧ sz = sz' ∧ cap = cap' := by simpa using hv'
    refine ⟨b, row * sz + off, rfl, fun j p hp => ?_⟩
    rw [List.getElem?_drop] at hp
    obtain ⟨x, e, hx⟩ := hc row r (off + j) p hrow hp
    refine ⟨x, ?_, h1c _ _ e, hx⟩
    show w.cell? ⟨b, row * sz + off + j, none⟩ = some x
    rw [cell_of_block hh, ← e]; congr 1; omega

theorem Rel.at_rptr (h : Rel G H w) {c : Nat} {cells : List PV} {v : Value} (hr : Rep G (.rptr c cells) v) : ∃ b o, v = .pointer (some ⟨b, o, none⟩) ∧ RowAt G (fun j => w.cell? ⟨b, o + j, none⟩) cells := by
  cases hr with
  | rptr vs h1 h3 h2 => exact ⟨_, _, rfl, fun j p hp => ⟨vs j, h.cell (h1 j p hp), h3 j p hp, h2 j p hp⟩⟩

theorem aload_sound (h : Rel G H w) {t : TypeId} {p q : PV} {v : Value} (hp : Rep G p v) (hl : aload P H t p = some q) : ∃ u, (Instr.loadAt t v).run P w = .ok u w ∧ Rep G q u := by
  unfold aload at hl
  split at hl
  · rename_i id vl row off
    split at hl
    · rename_i rows hb
      split at hl
      · rename_i hlen
        simp only [Option.bind_eq_some_iff] at hl
        obtain ⟨r, hrow, hpart⟩ := hl
        obtain ⟨b, o, rfl, hat⟩ := h.at_ptr hp hb hlen hrow
        obtain ⟨u, hu, hrep⟩ := partOf_load hpart (a := ⟨b, o, none⟩) (w := w) (G := G) (by simpa only [addr_add] using hat)
        exact ⟨u, by simp [Instr.loadAt, Instr.sureAddr, hu], hrep⟩
      · cases hl
    · cases hl
  · rename_i c cells
    obtain ⟨b, o, rfl, hat⟩ := h.at_rptr hp
    obtain ⟨u, hu, hrep⟩ := partOf_load hl (a := ⟨b, o, none⟩) (w := w) (G := G) (by simpa only [addr_add, List.drop_zero] using hat)
    exact ⟨u, by simp [Instr.loadAt, Instr.sureAddr, hu], hrep⟩
  · cases hl

end
end Go.Abs
