/- The abstract layer, part 6: making memory; append. -/
import Derived.Test.YtahkpjbhjkmedaaK5
namespace Go.Abs
set_option autoImplicit false

def aalloc (P : Program) (H : AS) (t : TypeId) : Option (PV × AS) :=
  match zeroOf P t with
  | some zs => if zs.all PV.atomic = true then some (.ptr H.next 1 0 0, (H.setBox H.next [zs]).bump 1) else none
  | none => none

def abox (H : AS) (p : PV) : Option (PV × AS) := if p.okCells = true then some (.ptr H.next 1 0 0, (H.setBox H.next [p.cells]).bump 1) else none

def abuildSlice (P : Program) (H : AS) (t : TypeId) (len : Nat) (parts : List (Nat × PV)) : Option (PV × AS) :=
  match P.underlying t with
  | some (.slice elem) => match szOf P elem, zeroOf P elem with
    | some sz, some _ =>
      if parts.map (·.1) = List.range len ∧ len * sz ≤ 2 ^ 24 ∧ (∀ x ∈ parts, x.2.okCells = true ∧ x.2.cells.length = sz) then
        let (rows, H1) := frzR H (parts.map (·.2.cells))
        some (.msl H1.next len sz, (H1.setBox H1.next rows).bump 1)
      else none
    | _, _ => none
  | _ => none

def amakeSlice (P : Program) (H : AS) (t : TypeId) (l c : PV) : Option (PV × AS) :=
  match P.underlying t, l, c with
  | some (.slice elem), .val (.int .i64 l), .val (.int .i64 c) => match szOf P elem, zeroOf P elem, bytesOf P elem with
    | some sz, some zs, some by_ =>
      if 0 ≤ l ∧ l ≤ c ∧ by_ * c ≤ 2 ^ 47 ∧ c < 2 ^ 63 ∧ zs.length = sz ∧ zs.all PV.atomic = true then
        some (.msl H.next l.toNat sz, (H.setBox H.next (List.replicate l.toNat zs)).bump 1)
      else none
    | _, _, _ => none
  | _, _, _ => none

section
variable {P : Program} {G : Gh} {H : AS} {w : World}

theorem atomic_val {v : Value} (h : (PV.val v).atomic = true) : v.oneCell' = true := by cases v <;> simp [PV.atomic] at h <;> rfl

theorem aalloc_sound (h : Rel G H w) {t : TypeId} {q : PV} {H' : AS} (ha : aalloc P H t = some (q, H')) :
    ∃ v w' G', (Instr.alloc t true (.tuple #[])).run P w = .ok v w' ∧ G.le G' ∧ Rel G' H' w' ∧ Rep G' q v := by
  unfold aalloc at ha
  split at ha
  · rename_i zs hz
    split at ha
    · rename_i hat
      simp at ha
      obtain ⟨rfl, rfl⟩ := ha
      obtain ⟨z, hzr, rfl⟩ := runZero hz w
      have hone : ∀ (o : Nat) (v : Value), z.cells[o]? = some v → v.oneCell' = true := fun o v hv => by
        rw [List.all_eq_true] at hat
        exact atomic_val (hat (.val v) (List.mem_map.2 ⟨v, by simpa using Array.mem_of_getElem? hv, rfl⟩))
      obtain ⟨hle, hrel, hview⟩ := h.alloc (w' := { w with heap := w.heap.push (.cells z.cells t (0, 0)) }) (rows := [z.cells.toList.map .val]) (sz := z.cells.size) (cap := 1) (vs := z.cells) (elem := t) (fz := (0, 0)) rfl ⟨rfl, rfl, rfl⟩
        (fun o _ => by simp) (by simp) (by simp) (by simp) (fun i r j p hi hj => by
          cases i with
          | zero =>
            simp at hi; subst hi
            rw [List.getElem?_map] at hj
            simp only [Option.map_eq_some_iff] at hj
            obtain ⟨v, hv, rfl⟩ := hj
            exact ⟨v, by simpa using hv, .val v⟩
          | succ i => simp at hi) hone
      refine ⟨.pointer (some ⟨w.heap.size, 0, none⟩), _, _, ?_, hle, hrel, ?_⟩
      · simp [Instr.alloc, hzr, newVar, newRow]
      · have := Rep.ptr (row := 0) (off := 0) hview
        simpa using this
    · cases ha
  · cases ha

theorem abox_sound (h : Rel G H w) {t : TypeId} {p q : PV} {v : Value} {H' : AS} (hp : Rep G p v) (ha : abox H p = some (q, H')) :
    ∃ u w' G', (Instr.box t v).run P w = .ok u w' ∧ G.le G' ∧ Rel G' H' w' ∧ Rep G' q u := by
  unfold abox at ha
  split at ha
  · rename_i hok
    simp at ha
    obtain ⟨rfl, rfl⟩ := ha
    obtain ⟨c1, c2, c3⟩ := hp.cells hok
    obtain ⟨hle, hrel, hview⟩ := h.alloc (w' := { w with heap := w.heap.push (.cells v.cells t (0, 0)) }) (rows := [p.cells]) (sz := v.cells.size) (cap := 1) (vs := v.cells) (elem := t) (fz := (0, 0)) rfl ⟨rfl, rfl, rfl⟩
      (fun o _ => by simp) (by simp) (by simp) (by simpa using c1) (fun i r j q hi hj => by
        cases i with
        | zero =>
          simp at hi; subst hi
          have hlt : j < v.cells.size := by rw [← c1]; exact (List.getElem?_eq_some_iff.1 hj).1
          exact ⟨v.cells[j], by simp [hlt], c2 j q _ hj (by simp [hlt])⟩
        | succ i => simp at hi) c3
    refine ⟨.pointer (some ⟨w.heap.size, 0, none⟩), _, _, by simp [Instr.box, newVar, newRow], hle, hrel, ?_⟩
    have := Rep.ptr (row := 0) (off := 0) hview
    simpa using this
  · cases ha

theorem foldl_write (off : Nat) (cs : List Value) : ∀ (k : Nat) (a : Array Value), (cs.zipIdx k).foldl (fun a (x : Value × Nat) => a.setIfInBounds (off + x.2) x.1) a = writeAll a (off + k) cs := by
  induction cs with
  | nil => intro k a; rfl
  | cons c cs ih => intro k a; simp only [List.zipIdx_cons, List.foldl_cons, writeAll]; rw [ih]; rfl

theorem fill_rows (sz : Nat) : ∀ (vs : List Value) (m : Nat) (cells : Array Value), (∀ v ∈ vs, v.cells.size = sz) → (m + vs.length) * sz ≤ cells.size →
    ∃ cells', Instr.fill (fun i => some (i * sz, sz)) cells (vs.zipIdx m |>.map fun x => (x.2, x.1)) = some cells' ∧ cells'.size = cells.size ∧
      (∀ (i : Nat) (v : Value) (j : Nat), vs[i]? = some v → j < sz → cells'[(m + i) * sz + j]? = v.cells[j]?) ∧ (∀ k, k < m * sz → cells'[k]? = cells[k]?)
  | [], m, cells, _, _ => ⟨cells, rfl, rfl, fun i v j hi _ => by simp at hi, fun _ _ => rfl⟩
  | v :: vs, m, cells, hs, hle => by
    have hv : v.cells.size = sz := hs v (by simp)
    have hmsz : m * sz + sz ≤ cells.size := by
      have : (m + 1) * sz ≤ (m + (v :: vs).length) * sz := Nat.mul_le_mul_right sz (by simp)
      rw [Nat.add_mul, Nat.one_mul] at this; omega
    obtain ⟨cells', e, hsz, hnew, hold⟩ := fill_rows sz vs (m + 1) (writeAll cells (m * sz) v.cells.toList) (fun x hx => hs x (by simp [hx])) (by
      rw [writeAll_size]; have : m + 1 + vs.length = m + (v :: vs).length := by simp; omega
      rw [this]; exact hle)
    refine ⟨cells', ?_, by rw [hsz, writeAll_size], fun i u j hi hj => ?_, fun k hk => ?_⟩
    · rw [← e]
      simp only [List.zipIdx_cons, List.map_cons, Instr.fill, hv]
      rw [if_neg (by simp; omega)]
      congr 1
      have := foldl_write (m * sz) v.cells.toList 0 cells
      rw [Nat.add_zero] at this
      rw [← this, ← Array.foldl_toList]
      simp
    · cases i with
      | zero =>
        simp at hi; subst hi
        have hk : m * sz + j < (m + 1) * sz := by rw [Nat.add_mul, Nat.one_mul]; omega
        rw [Nat.add_zero, hold _ hk, writeAll_get _ _ _ _ (by simp; omega), if_pos (by simp; omega)]
        simp
      | succ i =>
        have := hnew i u j (by simpa using hi) hj
        rw [show m + (i + 1) = m + 1 + i by omega]; exact this
    · rw [hold k (by rw [Nat.add_mul]; omega), writeAll_get _ _ _ _ (by simp; omega), if_neg (by omega)]

/-- What a list of values holds, row by row. -/
theorem rows_of_cells {l : List PV} {vs : List Value} {sz : Nat} (hlen : l.length = vs.length) (h : ∀ (i : Nat) (p : PV) (v : Value), l[i]? = some p → vs[i]? = some v → Rep G p v)
    (hok : ∀ p ∈ l, p.okCells = true ∧ p.cells.length = sz) :
    (∀ v ∈ vs, v.cells.size = sz) ∧ RepR G (l.map PV.cells) (fun i j => ((vs[i]?).bind fun v => v.cells[j]?).getD undef) ∧ (∀ v ∈ vs, ∀ (j : Nat) (u : Value), v.cells[j]? = some u → u.oneCell' = true) ∧
    (∀ (i : Nat) (r : List PV), (l.map PV.cells)[i]? = some r → r.length = sz) := by
  have key : ∀ v ∈ vs, ∃ p, p ∈ l ∧ Rep G p v := fun v hv => by
    obtain ⟨i, hi⟩ := List.getElem?_of_mem hv
    have hlt : i < l.length := by rw [hlen]; exact (List.getElem?_eq_some_iff.1 hi).1
    exact ⟨l[i], List.getElem_mem hlt, h i _ v (List.getElem?_eq_getElem hlt) hi⟩
  refine ⟨fun v hv => ?_, fun i r hi j q hq => ?_, fun v hv j u hu => ?_, fun i r hi => ?_⟩
  · obtain ⟨p, hp, hr⟩ := key v hv
    rw [← (hr.cells (hok p hp).1).1]; exact (hok p hp).2
  · rw [List.getElem?_map] at hi
    simp only [Option.map_eq_some_iff] at hi
    obtain ⟨p, hp, rfl⟩ := hi
    have hlt : i < vs.length := by rw [← hlen]; exact (List.getElem?_eq_some_iff.1 hp).1
    have hr := h i p vs[i] hp (List.getElem?_eq_getElem hlt)
    obtain ⟨c1, c2, c3⟩ := hr.cells (hok p (List.mem_of_getElem? hp)).1
    have hj : j < vs[i].cells.size := by rw [← c1]; exact (List.getElem?_eq_some_iff.1 hq).1
    have := c2 j q vs[i].cells[j] hq (by simp [hj])
    simpa [hlt, hj] using this
  · obtain ⟨p, hp, hr⟩ := key v hv
    exact (hr.cells (hok p hp).1).2.2 j u hu
  · rw [List.getElem?_map] at hi
    simp only [Option.map_eq_some_iff] at hi
    obtain ⟨p, hp, rfl⟩ := hi
    exact (hok p (List.mem_of_getElem? hp)).2

theorem abuildSlice_sound (h : Rel G H w) {t : TypeId} {len : Nat} {parts : List (Nat × PV)} {vparts : List (Nat × Value)} {q : PV} {H' : AS} (hlen : parts.length = vparts.length)
    (hp : ∀ (i : Nat) (x : Nat × PV) (y : Nat × Value), parts[i]? = some x → vparts[i]? = some y → x.1 = y.1 ∧ Rep G x.2 y.2) (ha : abuildSlice P H t len parts = some (q, H')) :
    ∃ v w' G', (Instr.buildSlice t len vparts.toArray).run P w = .ok v w' ∧ G.le G' ∧ Rel G' H' w' ∧ Rep G' q v := by
  unfold abuildSlice at ha
  split at ha
  · rename_i elem hu
    split at ha
    · rename_i sz zs hsz hz
      split at ha
      · rename_i hc
        obtain ⟨hidx, hbig, hok⟩ := hc
        simp at ha
        obtain ⟨rfl, rfl⟩ := ha
        have hplen : parts.length = len := by have := congrArg List.length hidx; simpa using this
        have hvl : (vparts.map (·.2)).length = len := by simp [← hlen, hplen]
        have hvp : vparts = ((vparts.map (·.2)).zipIdx).map fun x => (x.2, x.1) := by
          apply List.ext_getElem?
          intro i
          by_cases hi : i < vparts.length
          · have hi' : i < parts.length := by omega
            have h1 := (hp i parts[i] vparts[i] (List.getElem?_eq_getElem hi') (List.getElem?_eq_getElem hi)).1
            have h2 : parts[i].1 = i := by
              have : (parts.map (·.1))[i]? = (List.range len)[i]? := by rw [hidx]
              rw [List.getElem?_map, List.getElem?_eq_getElem hi', List.getElem?_range (by omega)] at this
              simpa using this
            simp [hi]
            ext <;> simp
            omega
          · simp [hi]
        obtain ⟨d1, d2, d3, d4⟩ := rows_of_cells (G := G) (l := parts.map (·.2)) (vs := vparts.map (·.2)) (sz := sz) (by simp [hlen]) (fun i p v hi hv => by
            rw [List.getElem?_map] at hi hv
            simp only [Option.map_eq_some_iff] at hi hv
            obtain ⟨x, hx, rfl⟩ := hi
            obtain ⟨y, hy, rfl⟩ := hv
            exact (hp i x y hx hy).2) (fun p hp' => by
            obtain ⟨x, hx, rfl⟩ := List.mem_map.1 hp'
            exact hok x hx)
        rw [List.map_map] at d2 d4
        generalize vparts.map (·.2) = vs at hvl hvp d1 d2 d3
        obtain ⟨G1, le1, r1, n1, m1, p1⟩ := frzR_sound _ h d2
        obtain ⟨z, hzr, _⟩ := runZero hz w
        obtain ⟨zero, hzero⟩ : ∃ zero : Array Value, zero = if len * sz = 0 then #[] else z.cells := ⟨_, rfl⟩
        obtain ⟨cells', hfill, hsize, hnew, _⟩ := fill_rows sz vs 0 ((Array.range (len * sz)).map (fun x => zero[x % zero.size]!)) d1 (by rw [hvl]; simp)
        rw [← hvp] at hfill
        have hcs : cells'.size = len * sz := by rw [hsize]; simp
        obtain ⟨hle, hrel, hview⟩ := r1.alloc (w' := { w with heap := w.heap.push (.cells cells' elem (0, 0)) }) (rows := (frzR H (parts.map (PV.cells ∘ fun x : Nat × PV => x.2))).1) (sz := sz) (cap := len) (vs := cells') (elem := elem) (fz := (0, 0)) rfl ⟨rfl, rfl, rfl⟩
          (fun o _ => by simp) (by rw [hcs]; exact Nat.le_refl _) (by rw [n1]; simp [hplen]) (fun r hr => by
            obtain ⟨i, hi⟩ := List.getElem?_of_mem hr
            obtain ⟨r0, hr0, e⟩ := m1 i r hi
            rw [e]; exact d4 i r0 hr0) (fun i r j p hi hj => by
            obtain ⟨r0, hr0, e⟩ := m1 i r hi
            have hjl : j < sz := by rw [← d4 i r0 hr0, ← e]; exact (List.getElem?_eq_some_iff.1 hj).1
            have hil : i < vs.length := by
              have := (List.getElem?_eq_some_iff.1 hr0).1
              simp at this; simp; omega
            have hc := hnew i _ j (List.getElem?_eq_getElem hil) hjl
            rw [Nat.zero_add] at hc
            have hvsz := d1 _ (List.getElem_mem hil)
            have hvj : vs[i].cells[j]? = some (vs[i].cells[j]'(by rw [hvsz]; exact hjl)) := by simp [hvsz, hjl]
            refine ⟨_, hc.trans hvj, ?_⟩
            have := p1 i r hi j p hj
            simp only [List.getElem?_eq_getElem hil, Option.bind_some, hvj, Option.getD_some] at this
            exact this) (fun o v hv => by
            have ho : o < len * sz := by rw [← hcs]; exact (Array.getElem?_eq_some_iff.1 hv).1
            have hszpos : 0 < sz := Nat.pos_of_ne_zero fun e => by subst e; simp at ho
            have hil : o / sz < vs.length := by rw [hvl]; exact (Nat.div_lt_iff_lt_mul hszpos).2 ho
            have hc := hnew (o / sz) _ (o % sz) (List.getElem?_eq_getElem hil) (Nat.mod_lt _ hszpos)
            rw [Nat.zero_add, Nat.div_add_mod'] at hc
            rw [hc] at hv
            exact d3 _ (List.getElem_mem hil) _ v hv)
        have hn : (frzR H (parts.map (PV.cells ∘ fun x : Nat × PV => x.2))).1.length = len := by rw [n1]; simp [hplen]
        generalize G1.addView _ _ _ _ _ _ = G2 at hle hrel hview
        refine ⟨.slice (some ⟨w.heap.size, 0, none⟩) len len, _, G2, ?_, le1.trans hle, hrel, .msl (hn ▸ hview)⟩
        have hb' : ¬ (len * sz > 2 ^ 24) := by omega
        unfold Instr.buildSlice
        by_cases h0 : len * sz = 0
        · rw [if_pos h0] at hzero
          subst hzero
          simp only [Sem.run_bind, run_underlying hu, Result.andThen_ok, runSize hsz, hb', if_false]
          rw [if_pos h0]
          simp only [Sem.run_bind, Sem.run_pure, Result.andThen_ok]
          rw [hfill]
          simp [newRow]
        · rw [if_neg h0] at hzero
          subst hzero
          simp only [Sem.run_bind, run_underlying hu, Result.andThen_ok, runSize hsz, hb', if_false]
          rw [if_neg h0]
          simp only [Sem.run_bind, Sem.run_pure, Result.andThen_ok, hzr]
          rw [hfill]
          simp [newRow]
      · cases ha
    · cases ha
  · cases ha

end
end Go.Abs
