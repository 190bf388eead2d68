/- The abstract layer, part 7: append. -/
import Derived.Test.YtahkpjbhjkmedaaK6
namespace Go.Abs
set_option autoImplicit false

/-- The rows that are appended. -/
def srcOf (H : AS) (sz : Nat) : PV → Option (List (List PV))
  | .val (.slice none 0 0) => some []
  | .slice _ _ [] => some []
  | .slice _ s (r :: rs) => if s = sz then some (r :: rs) else none
  | .msl id len s => if s = sz then (H.box id).bind fun rows => if rows.length = len then some rows else none else none
  | _ => none

@[simp] theorem srcOf_sl (H : AS) (c sz : Nat) (rows : List (List PV)) : srcOf H sz (PV.sl c sz rows) = some rows := by cases rows <;> simp [PV.sl, srcOf]

/-- append: what is asked, and what follows. -/
def aappend (P : Program) (H : AS) (sT xT : TypeId) (x y : PV) (k : PV → AS → Prop) : Prop :=
  match P.underlying sT, P.underlying xT with
  | some (.slice elem), some (.slice _) => match szOf P elem, zeroOf P elem, bytesOf P elem with
    | some sz, some zs, some by_ =>
      (zs.length = sz ∧ zs.all PV.atomic = true ∧ 0 < by_) ∧
      match srcOf H sz y with
      | some ys =>
        match x with
        | .val (.slice none 0 0) =>
          if ys.length = 0 then k .nil H
          else ys.length * by_ ≤ 2 ^ 47 ∧ k (.msl (frzR H ys).2.next ys.length sz) (((frzR H ys).2.setBox (frzR H ys).2.next (frzR H ys).1).bump 1)
        | .msl id len s => match (frzR H ys).2.box id with
          | some rows => (rows.length = len ∧ s = sz ∧ (len + ys.length) * by_ ≤ 2 ^ 47) ∧ k (.msl id (len + ys.length) sz) ((frzR H ys).2.setBox id (rows ++ (frzR H ys).1))
          | none => False
        | _ => False
      | none => False
    | _, _, _ => False
  | _, _ => False

section
variable {P : Program} {G : Gh} {H : AS} {w : World}

/-- What is known of a source. -/
def SrcOk (P : Program) (G : Gh) (w : World) (sz : Nat) (ys : List (List PV)) (v : Value) : Prop :=
    ∃ (vals : Nat → Nat → Value) (arr : Array Value) (a : Option Addr) (cap : Nat), v = .slice a ys.length cap ∧ RepR G ys vals ∧ (∀ n, (Builtin.firstCells sz ys.length v).run P { w with drawn := n } = .ok arr { w with drawn := n }) ∧ arr.size = ys.length * sz ∧
      (∀ i j, i < ys.length → j < sz → arr[i * sz + j]? = some (vals i j)) ∧ (∀ (o : Nat) (u : Value), arr[o]? = some u → u.oneCell' = true) ∧ (∀ r ∈ ys, r.length = sz)

/-- The cells of a source. -/
theorem src_cells (h : Rel G H w) {sz : Nat} {y : PV} {v : Value} {ys : List (List PV)} (hy : Rep G y v) (hs : srcOf H sz y = some ys) : SrcOk P G w sz ys v := by
  -- a read of a stretch of rows
  have key : ∀ (b o : Nat) (vals : Nat → Nat → Value), (∀ (i : Nat) (r : List PV), ys[i]? = some r → r.length = sz) →
      (∀ (i : Nat) (r : List PV) (j : Nat) (p : PV), ys[i]? = some r → r[j]? = some p → w.cell? ⟨b, o + (i * sz + j), none⟩ = some (vals i j) ∧ (vals i j).oneCell' = true ∧ Rep G p (vals i j)) →
      ∃ arr : Array Value, RepR G ys vals ∧ (∀ n, (loadCells ⟨b, o, none⟩ (ys.length * sz)).run P { w with drawn := n } = .ok arr { w with drawn := n }) ∧ arr.size = ys.length * sz ∧
      (∀ i j, i < ys.length → j < sz → arr[i * sz + j]? = some (vals i j)) ∧ (∀ (o : Nat) (u : Value), arr[o]? = some u → u.oneCell' = true) ∧ (∀ r ∈ ys, r.length = sz) := by
    intro b o vals hlen hc
    have at_ : ∀ k, k < ys.length * sz → ∃ i j, k = i * sz + j ∧ i < ys.length ∧ j < sz ∧ i = k / sz ∧ j = k % sz := by
      intro k hk
      have hpos : 0 < sz := Nat.pos_of_ne_zero fun e => by subst e; simp at hk
      exact ⟨k / sz, k % sz, (Nat.div_add_mod' k sz).symm, (Nat.div_lt_iff_lt_mul hpos).2 hk, Nat.mod_lt _ hpos, rfl, rfl⟩
    have cellof : ∀ i j, i < ys.length → j < sz → ∃ p, (ys[i]?).bind (·[j]?) = some p ∧ w.cell? ⟨b, o + (i * sz + j), none⟩ = some (vals i j) ∧ (vals i j).oneCell' = true ∧ Rep G p (vals i j) := by
      intro i j hi hj
      have hr := hlen i _ (List.getElem?_eq_getElem hi)
      have hj' : j < ys[i].length := by omega
      exact ⟨ys[i][j], by simp [hi, hj'], hc i _ j _ (List.getElem?_eq_getElem hi) (List.getElem?_eq_getElem hj')⟩
    have hdm : ∀ i j, j < sz → (i * sz + j) / sz = i ∧ (i * sz + j) % sz = j := by
      intro i j hj
      have hpos : 0 < sz := by omega
      constructor
      · rw [Nat.mul_comm, Nat.mul_add_div hpos, Nat.div_eq_of_lt hj]; rfl
      · rw [Nat.mul_comm, Nat.mul_add_mod]; exact Nat.mod_eq_of_lt hj
    have hload := fun n => run_loadCells (P := P) { w with drawn := n } ⟨b, o, none⟩ (ys.length * sz) (fun k => vals (k / sz) (k % sz)) (fun k hk => by
      obtain ⟨i, j, rfl, hi, hj, e1, e2⟩ := at_ k hk
      obtain ⟨p, _, h1, _⟩ := cellof i j hi hj
      rw [addr_add, ← e1, ← e2]; exact h1 : _)
    refine ⟨_, fun i r hr j p hp => (hc i r j p hr hp).2.2, hload, by simp, fun i j hi hj => ?_, fun k u hu => ?_, fun r hr => ?_⟩
    · have hk : i * sz + j < ys.length * sz := by
        have : (i + 1) * sz ≤ ys.length * sz := Nat.mul_le_mul_right sz hi
        rw [Nat.add_mul, Nat.one_mul] at this; omega
      obtain ⟨d1, d2⟩ := hdm i j hj
      simp [hk, d1, d2]
    · have hk : k < ys.length * sz := by have := (Array.getElem?_eq_some_iff.1 hu).1; simpa using this
      obtain ⟨i, j, rfl, hi, hj, e1, e2⟩ := at_ k hk
      obtain ⟨p, _, _, h2, _⟩ := cellof i j hi hj
      simp [hk] at hu
      rw [Nat.mod_eq_of_lt hj] at hu
      rw [← hu, ← e1]; exact h2
    · obtain ⟨i, hi⟩ := List.getElem?_of_mem hr
      exact hlen i r hi
  have empty : ∀ (a : Option Addr) (cap : Nat), ys = [] → v = .slice a 0 cap → SrcOk P G w sz ys v := by
    intro a cap e e'
    subst e
    exact ⟨fun _ _ => undef, #[], a, cap, e', fun i r hr => by simp at hr, by subst e'; cases a <;> simp [Builtin.firstCells, loadCells, loadCellsFrom], by simp, fun i j hi => by simp at hi, fun o u hu => by simp at hu, fun r hr => by simp at hr⟩
  unfold srcOf at hs
  split at hs
  · simp at hs; cases hy; exact empty none 0 hs rfl
  · simp at hs
    cases hy with
    | slice vs h0 h1 h2 h3 h4 => exact empty _ _ hs rfl
    | nilSlice => exact empty none 0 hs rfl
    | emptySlice => exact empty _ _ hs rfl
  · rename_i c s r rs
    split at hs
    · rename_i e; subst e
      simp at hs
      cases hy with
      | slice vs h0 h1 h2 h3 h4 =>
        rename_i b o cap
        rw [hs] at h0 h1 h2 h3 h4
        obtain ⟨arr, g1, g2, g3⟩ := key b o vs h1 (fun i r j p hi hj => ⟨by rw [← Nat.add_assoc]; exact h.cell (h2 i r j p hi hj), h3 i r j p hi hj, h4 i r j p hi hj⟩)
        exact ⟨vs, arr, some ⟨b, o, none⟩, cap, by rw [hs], g1, by simpa [Builtin.firstCells] using g2, g3⟩
    · cases hs
  · rename_i id len s
    split at hs
    · rename_i e; subst e
      simp only [Option.bind_eq_some_iff] at hs
      obtain ⟨rows, hb, hs⟩ := hs
      split at hs
      · rename_i hlen
        simp at hs; subst hs
        cases hy with
        | msl hv =>
          rename_i b cap
          obtain ⟨b', s', cap', vs, elem, fz, hv', hh, hfz, hcap, hlencap, hrows, hcells, h1c, hro⟩ := h.box id rows hb
          rw [hlen, hv] at hv'
          obtain ⟨rfl, rfl, rfl⟩ : b = b' ∧ s = s' ∧ cap = cap' := by simpa using hv'
          obtain ⟨arr, g1, g2, g3⟩ := key b 0 (fun i j => (vs[i * s + j]?).getD undef) (fun i r hi => hrows r (List.mem_of_getElem? hi)) (fun i r j p hi hj => by
            obtain ⟨u, e, hr⟩ := hcells i r j p hi hj
            refine ⟨by rw [Nat.zero_add, cell_of_block hh, e]; rfl, by rw [e]; exact h1c _ _ e, by rw [e]; exact hr⟩)
          exact ⟨_, arr, some ⟨b, 0, none⟩, cap, by rw [hlen], g1, by simpa [Builtin.firstCells] using g2, g3⟩
      · cases hs
    · cases hs
  · cases hs

/-- A live box gets more rows, where it lies or over a new block. -/
theorem Rel.regrow (h : Rel G H w) {id : Nat} {rows rows' : List (List PV)} (hb : H.box id = some rows) (hl : rows.length < rows'.length) {w' : World} {b' sz cap b0 s0 c0 : Nat} {vs : Array Value} {elem : TypeId} {fz : Nat × Nat}
    (hv0 : G.view id rows.length = some (b0, s0, c0)) (hb' : b' = b0 ∨ b' = w.heap.size) (hw : ∀ (b : Nat) (o : Obj), b ≠ b' → w.heap[b]? = some o → w'.heap[b]? = some o) (hnew : w'.heap[b']? = some (.cells vs elem fz))
    (hrest : w'.os = w.os ∧ w'.output = w.output ∧ w'.tape = w.tape) (hfz : ∀ o, o < vs.size → ¬ (fz.1 ≤ o ∧ o < fz.2)) (hcap : cap * sz ≤ vs.size) (hlen : rows'.length ≤ cap) (hrows : ∀ r ∈ rows', r.length = sz)
    (hc : ∀ (i : Nat) (r : List PV) (j : Nat) (p : PV), rows'[i]? = some r → r[j]? = some p → ∃ v, vs[i * sz + j]? = some v ∧ Rep G p v) (h1c : ∀ (o : Nat) (v : Value), vs[o]? = some v → v.oneCell' = true) :
    ∃ G', G.le G' ∧ Rel G' (H.setBox id rows') w' ∧ G'.view id rows'.length = some (b', sz, cap) := by
  obtain ⟨b1, s1, c1, vs0, e0, f0, hv1, hh0, _, _, _, _, _, _, hro0⟩ := h.box id rows hb
  rw [hv0] at hv1
  obtain ⟨rfl, rfl, rfl⟩ : b0 = b1 ∧ s0 = s1 ∧ c0 = c1 := by simpa using hv1
  have hnone : G.view id rows'.length = none := by
    cases e : G.view id rows'.length with
    | none => rfl
    | some x => have := h.vmax id rows _ x hb e; omega
  let G' := G.addView id rows'.length b' sz cap G.next
  have hle : G.le G' := Gh.le_addView hnone (Nat.le_refl _)
  have hvG' : G'.view id rows'.length = some (b', sz, cap) := by simp [G', Gh.addView]
  have hvne : ∀ i l, i ≠ id → G'.view i l = G.view i l := fun i l hi => by simp [G', Gh.addView, hi]
  have hrob : G.ro b' = none := by
    rcases hb' with e | e
    · rw [e]; exact hro0
    · cases er : G.ro b' with
      | none => rfl
      | some x => obtain ⟨c, o⟩ := x; have := (Array.getElem?_eq_some_iff.1 (h.ro _ _ _ er)).1; omega
  have hother : ∀ i ri b s c, i ≠ id → H.box i = some ri → G.view i ri.length = some (b, s, c) → b ≠ b' := by
    intro i ri b s c hi hbi hvi e
    rcases hb' with e' | e'
    · rw [e, e'] at hvi; exact hi (h.inj i id ri rows b0 s c s0 c0 hbi hb hvi hv0)
    · have := h.lt hbi hvi; omega
  refine ⟨G', hle, ⟨h.next, fun b c o e => ?_, fun i r hi => ?_, fun i j ri rj b s c s' c' hi hj e1 e2 => ?_, fun i es hi => ?_, h.minj, fun i r vl x hi hv => ?_, fun i l x e => ?_, h.mdom, by rw [hrest.1]; exact h.os, by rw [hrest.2.1]; exact h.out, by rw [hrest.2.2]; exact h.tape⟩, hvG'⟩
  · refine hw b o (fun e' => ?_) (h.ro _ _ _ e)
    subst e'; rw [show G'.ro b = G.ro b from rfl, hrob] at e; cases e
  · simp only [setBox_box] at hi
    split at hi
    · rename_i hid; subst hid; cases hi
      exact ⟨b', sz, cap, vs, elem, fz, hvG', hnew, hfz, hcap, hlen, hrows, RowsAt.mono (f := fun k => vs[k]?) hle hc, h1c, hrob⟩
    · rename_i hid
      obtain ⟨b, s, c, vs', el, f, hv, hh, h1, h2, h3, h4, h5, h6, h7⟩ := h.box i r hi
      exact ⟨b, s, c, vs', el, f, by rw [hvne _ _ hid]; exact hv, hw _ _ (hother i r b s c hid hi hv) hh, h1, h2, h3, h4, RowsAt.mono (f := fun k => vs'[k]?) hle h5, h6, h7⟩
  · simp only [setBox_box] at hi hj
    by_cases h1 : i = id
    · by_cases h2 : j = id
      · omega
      · rw [if_pos h1] at hi; rw [if_neg h2] at hj; cases hi
        subst h1
        rw [hvG'] at e1
        rw [hvne _ _ h2] at e2
        exact absurd (by simpa using e1 : b' = b ∧ _).1 (fun e => hother j rj b s' c' h2 hj e2 e.symm)
    · rw [if_neg h1] at hi
      rw [hvne _ _ h1] at e1
      by_cases h2 : j = id
      · rw [if_pos h2] at hj; cases hj
        subst h2
        rw [hvG'] at e2
        exact absurd (by simpa using e2 : b' = b ∧ _).1 (fun e => hother i ri b s c h1 hi e1 e.symm)
      · rw [if_neg h2] at hj
        rw [hvne _ _ h2] at e2
        exact h.inj i j ri rj b s c s' c' hi hj e1 e2
  · obtain ⟨b, ents, clock, hv, hh, g1, g2, g3⟩ := h.mp i es hi
    refine ⟨b, ents, clock, hv, hw _ _ (fun e => ?_) hh, g1, fun i e m hi hj => ⟨(g2 i e m hi hj).1, (g2 i e m hi hj).2.mono hle⟩, g3⟩
    subst e
    rcases hb' with e | e
    · rw [e, hh0] at hh; cases hh
    · have := (Array.getElem?_eq_some_iff.1 hh).1; omega
  · simp only [setBox_box] at hi
    by_cases hid : i = id
    · subst hid
      rw [if_pos rfl] at hi; cases hi
      by_cases e : vl = rows'.length
      · omega
      · have e' : G'.view i vl = G.view i vl := by simp [G', Gh.addView, e]
        rw [e'] at hv
        have := h.vmax _ _ _ _ hb hv; omega
    · rw [if_neg hid] at hi
      rw [hvne _ _ hid] at hv
      exact h.vmax _ _ _ _ hi hv
  · by_cases hid : i = id
    · subst hid; exact h.dom _ _ _ hv0
    · rw [hvne _ _ hid] at e; exact h.dom _ _ _ e

theorem growBy_le (n : Nat) (hn : 256 ≤ n) : ∀ (rounds c : Nat), c ≤ 2 * n → Builtin.growBy n rounds c ≤ 2 * n
  | 0, c, h => h
  | rounds + 1, c, h => by
    unfold Builtin.growBy
    split
    · exact h
    · exact growBy_le n hn rounds _ (by omega)

theorem nextslicecap_le {need old : Nat} (h : old < need) : Builtin.nextslicecap need old ≤ 2 * need := by
  unfold Builtin.nextslicecap
  split
  · omega
  · split
    · omega
    · exact growBy_le need (by omega) 4 old (by omega)

theorem zeroCells_get (zero : Array Value) (n : Nat) : (Builtin.zeroCells zero n).size = n * zero.size ∧ ∀ (o : Nat) (u : Value), (Builtin.zeroCells zero n)[o]? = some u → ∃ i : Nat, zero[i]? = some u := by
  refine ⟨by simp [Builtin.zeroCells], fun o u hu => ?_⟩
  have ho : o < n * zero.size := by have := (Array.getElem?_eq_some_iff.1 hu).1; simpa [Builtin.zeroCells] using this
  have hpos : 0 < zero.size := Nat.pos_of_ne_zero fun e => by rw [e] at ho; simp at ho
  have hlt : o % zero.size < zero.size := Nat.mod_lt _ hpos
  simp [Builtin.zeroCells, ho, hlt] at hu
  exact ⟨o % zero.size, by simp [hlt, hu]⟩

theorem aappend_sound (h : Rel G H w) {sT xT ty : TypeId} {x y : PV} {u v : Value} {k : PV → AS → Prop} (hx : Rep G x u) (hy : Rep G y v) (ha : aappend P H sT xT x y k) :
    ∃ r w' G' q H', (Builtin.append_ #[sT, xT] ty #[u, v]).run P w = .ok r w' ∧ G.le G' ∧ Rel G' H' w' ∧ Rep G' q r ∧ k q H' := by
  unfold aappend at ha
  split at ha
  case h_2 => exact ha.elim
  rename_i elem e2 hu hxT
  split at ha
  case h_2 => exact ha.elim
  rename_i sz zs by_ hsz hz hby
  obtain ⟨⟨hzl, hzat, hbpos⟩, ha⟩ := ha
  split at ha
  case h_2 => exact ha.elim
  rename_i ys hs
  obtain ⟨vals, arr, a, cap, rfl, hrep, hfirst', harr, hget, hone, hrow⟩ := src_cells (P := P) h hy hs
  have hfirst : (Builtin.firstCells sz ys.length (.slice a ys.length cap)).run P w = .ok arr w := hfirst' w.drawn
  obtain ⟨z, hzr, rfl⟩ := runZero hz w
  obtain ⟨ti, hti, rfl⟩ := runBytes hby w
  have hzsz : z.cells.size = sz := by simpa using hzl
  have hzone : ∀ (o : Nat) (u : Value), z.cells[o]? = some u → u.oneCell' = true := fun o u hu => by
    rw [List.all_eq_true] at hzat
    exact atomic_val (hzat (.val u) (List.mem_map.2 ⟨u, by simpa using Array.mem_of_getElem? hu, rfl⟩))
  obtain ⟨G1, le1, r1, n1, m1, p1⟩ := frzR_sound ys h hrep
  have hrow1 : ∀ r ∈ (frzR H ys).1, r.length = sz := fun r hr => by
    obtain ⟨i, hi⟩ := List.getElem?_of_mem hr
    obtain ⟨r0, h0, e⟩ := m1 i r hi
    rw [e]; exact hrow r0 (List.mem_of_getElem? h0)
  have hlen : ∀ W, (Builtin.lenOf (.slice a ys.length cap)).run P W = .ok ys.length W := fun _ => rfl
  -- in place
  have place : ∀ (base : Option Addr) (sLen sCap : Nat) (w' : World), sLen + ys.length ≤ sCap → (∀ a, base = some a → (storeCells (a.add (sLen * sz)) arr.toList).run P w = .ok () w') → (base = none → w' = w) →
      (Builtin.append_ #[sT, xT] ty #[.slice base sLen sCap, .slice a ys.length cap]).run P w = .ok (.slice base (sLen + ys.length) sCap) w' := by
    intro base sLen sCap w' hle hst hnone
    unfold Builtin.append_
    simp only [List.getElem?_toArray, List.getElem?_cons_zero, List.getElem?_cons_succ, Sem.run_bind, run_underlying hu, run_underlying hxT, Result.andThen_ok, runSize hsz, Sem.run_pure, Bool.false_eq_true, if_false, hlen, hle, if_true, Bool.not_false, hfirst]
    cases base with
    | none => simp [hnone rfl]
    | some b => simp [hst b rfl]
  -- growing
  have grow : ∀ (base : Option Addr) (sLen sCap : Nat) (old : Array Value), ¬ (sLen + ys.length ≤ sCap) → (sLen + ys.length) * ti.bytes ≤ 2 ^ 47 →
      (∀ n, (Builtin.firstCells sz sLen (.slice base sLen sCap)).run P { w with drawn := n } = .ok old { w with drawn := n }) →
      ∃ newCap n, sLen + ys.length ≤ newCap ∧ (Builtin.append_ #[sT, xT] ty #[.slice base sLen sCap, .slice a ys.length cap]).run P w =
        .ok (.slice (some ⟨w.heap.size, 0, none⟩) (sLen + ys.length) newCap) { w with heap := w.heap.push (.cells (old ++ arr ++ Builtin.zeroCells z.cells (newCap - (sLen + ys.length))) elem (0, 0)), drawn := n } := by
    intro base sLen sCap old hgt hbound hold
    have hns : Builtin.nextslicecap (sLen + ys.length) sCap * ti.bytes ≤ 2 ^ 48 := by
      have := nextslicecap_le (need := sLen + ys.length) (old := sCap) (by omega)
      have h2 := Nat.mul_le_mul_right ti.bytes this
      rw [Nat.mul_assoc] at h2
      omega
    have hz0 : ti.bytes ≠ 0 := by omega
    have hmax : ¬ (((sLen + ys.length : Nat) : Int) > IntKind.i64.max ∧ (False ∨ ti.bytes = 0)) := by simp [hz0]
    obtain ⟨newCap, hnc, hch⟩ : ∃ newCap, sLen + ys.length ≤ newCap ∧ (choose (.appendCap (sLen + ys.length) sCap elem)).run P w = .ok newCap { w with drawn := w.drawn + 1 } := by
      refine ⟨(Question.appendCap (sLen + ys.length) sCap elem).cut (w.tape w.drawn (.appendCap (sLen + ys.length) sCap elem)), ?_, by simp [Question.forced]⟩
      simp [Question.cut]
    have hti' : ∀ n, (typeInfo elem).run P { w with drawn := n } = .ok ti { w with drawn := n } := fun n => by
      unfold typeInfo at hti ⊢
      cases hi : P.info? elem with
      | none => simp [hi] at hti
      | some i => simp [hi] at hti ⊢; exact hti
    have hz' : ∀ n, (zeroValue elem).run P { w with drawn := n } = .ok z { w with drawn := n } := fun n => by
      obtain ⟨z', e1, e2⟩ := runZero hz { w with drawn := n }
      unfold zeroValue at hzr e1 ⊢
      simp only [Sem.run_bind, hti, hti', Result.andThen_ok] at hzr e1 ⊢
      cases hzz : ti.zero with
      | none => simp [hzz] at hzr
      | some q => simp [hzz] at hzr ⊢; exact hzr
    refine ⟨newCap, w.drawn + 1, hnc, ?_⟩
    unfold Builtin.append_
    simp only [List.getElem?_toArray, List.getElem?_cons_zero, List.getElem?_cons_succ, Sem.run_bind, run_underlying hu, run_underlying hxT, Result.andThen_ok, runSize hsz, Sem.run_pure, Bool.false_eq_true, if_false, hlen, hgt, Bool.not_false, if_true, hti, hmax, gt_iff_lt, Nat.not_lt.2 hns, hch, run_askRoom, hti', hold, hfirst', hz']
    simp only [newRow, Sem.run_bind, run_newObj, Result.andThen_ok, Sem.run_pure]
  -- what a grown row holds
  have cellsOf : ∀ (old : Array Value) (rows : List (List PV)) (m : Nat), old.size = rows.length * sz → (∀ r ∈ rows, r.length = sz) → (∀ (i : Nat) (r : List PV) (j : Nat) (p : PV), rows[i]? = some r → r[j]? = some p → ∃ v, old[i * sz + j]? = some v ∧ Rep G1 p v) →
      ∀ (rest : Array Value) (i : Nat) (r : List PV) (j : Nat) (p : PV), (rows ++ (frzR H ys).1)[i]? = some r → r[j]? = some p → ∃ v, (old ++ arr ++ rest)[i * sz + j]? = some v ∧ Rep G1 p v := by
    intro old rows m hos hrs hold rest i r j p hi hj
    by_cases hlt : i < rows.length
    · rw [List.getElem?_append_left hlt] at hi
      obtain ⟨v, e, hr⟩ := hold i r j p hi hj
      refine ⟨v, ?_, hr⟩
      have := (Array.getElem?_eq_some_iff.1 e).1
      rw [Array.getElem?_append_left (by simp; omega), Array.getElem?_append_left this]; exact e
    · rw [List.getElem?_append_right (by omega)] at hi
      have hil : i - rows.length < ys.length := by rw [← n1]; exact (List.getElem?_eq_some_iff.1 hi).1
      have hjl : j < sz := by rw [← hrow1 r (List.mem_of_getElem? hi)]; exact (List.getElem?_eq_some_iff.1 hj).1
      have hg := hget (i - rows.length) j hil hjl
      have hk : (i - rows.length) * sz + j < arr.size := (Array.getElem?_eq_some_iff.1 hg).1
      have he : i * sz + j = old.size + ((i - rows.length) * sz + j) := by
        rw [hos, ← Nat.add_assoc, ← Nat.add_mul]; congr 2; omega
      refine ⟨_, ?_, p1 (i - rows.length) r hi j p hj⟩
      rw [he, Array.getElem?_append_left (by simp; omega), Array.getElem?_append_right (by omega)]
      rw [show old.size + ((i - rows.length) * sz + j) - old.size = (i - rows.length) * sz + j by omega]; exact hg
  have oneOf : ∀ (old : Array Value) (m : Nat), (∀ (o : Nat) (u : Value), old[o]? = some u → u.oneCell' = true) → ∀ (o : Nat) (u : Value), (old ++ arr ++ Builtin.zeroCells z.cells m)[o]? = some u → u.oneCell' = true := by
    intro old m hold o u hu
    rw [Array.getElem?_append] at hu
    split at hu
    · rw [Array.getElem?_append] at hu
      split at hu
      · exact hold _ _ hu
      · exact hone _ _ hu
    · obtain ⟨i, hi⟩ := (zeroCells_get z.cells m).2 _ _ hu
      exact hzone _ _ hi
  split at ha
  · -- nil
    cases hx
    split at ha
    · rename_i h0
      refine ⟨_, w, G, _, H, place none 0 0 w (by omega) (fun a e => by cases e) (fun _ => rfl), .refl G, h, ?_, ha⟩
      rw [h0]; exact .val _
    · rename_i h0
      obtain ⟨hbound, ha⟩ := ha
      obtain ⟨newCap, n, hnc, hrun⟩ := grow none 0 0 #[] (by omega) (by simpa using hbound) (fun n => rfl)
      simp only [Nat.zero_add] at hrun hnc
      obtain ⟨hle, hrel, hview⟩ := r1.alloc (w' := { w with heap := w.heap.push (.cells (#[] ++ arr ++ Builtin.zeroCells z.cells (newCap - ys.length)) elem (0, 0)), drawn := n }) (rows := (frzR H ys).1) (sz := sz) (cap := newCap) rfl ⟨rfl, rfl, rfl⟩
        (fun o _ => by simp) (by
          have := (zeroCells_get z.cells (newCap - ys.length)).1
          simp [this, harr, hzsz, ← Nat.add_mul]
          exact Nat.mul_le_mul_right sz (by omega)) (by rw [n1]; exact hnc) hrow1 (by
          have := cellsOf #[] [] 0 (by simp) (by simp) (by simp) (Builtin.zeroCells z.cells (newCap - ys.length))
          simpa using this) (oneOf #[] _ (by simp))
      generalize G1.addView _ _ _ _ _ _ = G2 at hle hrel hview
      exact ⟨_, _, G2, _, _, hrun, le1.trans hle, hrel, .msl (n1 ▸ hview), ha⟩
  · rename_i id len s
    split at ha
    case h_2 => exact ha.elim
    rename_i rows hb
    obtain ⟨⟨hlenr, rfl, hbound⟩, ha⟩ := ha
    cases hx with
    | msl hv =>
      rename_i b cap0
      have hv1 := le1.view _ _ _ hv
      obtain ⟨b', s', cap', vs, el, fz, hv', hh, hfz, hcap, hlencap, hrows, hcells, h1c, hro⟩ := r1.box id rows hb
      have hv'' := hv'
      rw [hlenr, hv1] at hv'
      obtain ⟨rfl, rfl, rfl⟩ : b = b' ∧ s = s' ∧ cap0 = cap' := by simpa using hv'
      by_cases hn : ys.length = 0
      · -- nothing is appended
        have hnil : (frzR H ys).1 = [] := List.length_eq_zero_iff.1 (by rw [n1]; exact hn)
        have harr0 : arr.toList = [] := by
          have : arr.size = 0 := by rw [harr, hn]; simp
          simpa using this
        refine ⟨_, w, G1, _, _, place (some ⟨b, 0, none⟩) len cap0 w (by rw [← hlenr, hn]; omega) (fun a e => by rw [harr0]; rfl) (fun e => by cases e), le1, ?_, .msl (by rw [hn]; exact hv1), ha⟩
        rw [hnil, List.append_nil]
        exact r1.write hb rfl (r1.box id rows hb) hv'' (fun _ _ => rfl) ⟨rfl, rfl, rfl⟩ hro ⟨vs, el, fz, hh⟩
      · by_cases hfit : len + ys.length ≤ cap0
        · -- in place
          have hend : len * s + ys.length * s ≤ vs.size := by
            rw [← Nat.add_mul]; exact Nat.le_trans (Nat.mul_le_mul_right s hfit) hcap
          have hrun := run_storeCells_cells (P := P) b (len * s) arr.toList 0 w (fun j hj => by
              simp at hj
              rw [cell_of_block hh]
              have : len * s + j < vs.size := by omega
              simp [this]) (fun j hj => by
              simp at hj
              simp only [World.frozen?, hh]
              have := hfz (len * s + 0 + j) (by omega)
              simpa using this) (fun u hu => by
              obtain ⟨j, hj⟩ := List.getElem?_of_mem hu
              exact hone j u (by simpa using hj))
          simp only [Nat.add_zero] at hrun
          have hrest := setCells_rest b arr.toList w (len * s)
          obtain ⟨G2, le2, r2, v2⟩ := r1.regrow hb (rows' := rows ++ (frzR H ys).1) (by simp [n1]; omega) (b' := b) (sz := s) (cap := cap0) hv'' (.inl rfl) (fun x o hx e => by rw [setCells_heap_ne b x hx]; exact e)
            (setCells_heap b _ w _ vs el fz hh) hrest (by rw [writeAll_size]; exact hfz) (by rw [writeAll_size]; exact hcap) (by simp [n1, hlenr]; exact hfit) (fun r hr => by
              rcases List.mem_append.1 hr with hr | hr
              · exact hrows r hr
              · exact hrow1 r hr) (fun i r j p hi hj => by
              rw [writeAll_get _ _ _ _ (by simp; omega)]
              have hjl : j < s := by
                have hl : r.length = s := by
                  rcases List.mem_append.1 (List.mem_of_getElem? hi) with hr | hr
                  · exact hrows r hr
                  · exact hrow1 r hr
                rw [← hl]; exact (List.getElem?_eq_some_iff.1 hj).1
              by_cases hlt : i < rows.length
              · rw [List.getElem?_append_left hlt] at hi
                have : i * s + j < len * s := by
                  have := Nat.mul_le_mul_right s (show i + 1 ≤ len by omega)
                  rw [Nat.add_mul, Nat.one_mul] at this; omega
                rw [if_neg (by omega)]
                exact hcells i r j p hi hj
              · rw [List.getElem?_append_right (by omega)] at hi
                have hil : i - rows.length < ys.length := by rw [← n1]; exact (List.getElem?_eq_some_iff.1 hi).1
                have hg := hget (i - rows.length) j hil hjl
                have hk : (i - rows.length) * s + j < arr.size := (Array.getElem?_eq_some_iff.1 hg).1
                have he : i * s + j = len * s + ((i - rows.length) * s + j) := by
                  rw [← Nat.add_assoc, ← Nat.add_mul]; congr 2; omega
                rw [if_pos (by simp; omega), he, show len * s + ((i - rows.length) * s + j) - len * s = (i - rows.length) * s + j by omega]
                exact ⟨_, by simpa using hg, p1 (i - rows.length) r hi j p hj⟩) (fun o u hu => by
              rw [writeAll_get _ _ _ _ (by simp; omega)] at hu
              split at hu
              · exact hone _ u (by simpa using hu)
              · exact h1c _ _ hu)
          refine ⟨_, _, G2, _, _, place (some ⟨b, 0, none⟩) len cap0 _ hfit (fun a e => by cases e; rw [addr_add, Nat.zero_add]; exact hrun) (fun e => by cases e), le1.trans le2, r2, ?_, ha⟩
          have hl : (rows ++ (frzR H ys).1).length = len + ys.length := by simp [n1, hlenr]
          exact .msl (hl ▸ v2)
        · -- over a new block
          have hold : ∀ n, (Builtin.firstCells s len (.slice (some ⟨b, 0, none⟩) len cap0)).run P { w with drawn := n } = .ok (vs.toList.take (len * s)).toArray { w with drawn := n } := fun n => by
            have hle' : len * s ≤ vs.size := Nat.le_trans (Nat.mul_le_mul_right s (by omega)) hcap
            have := run_loadCells_list (P := P) { w with drawn := n } ⟨b, 0, none⟩ (vs.toList.take (len * s)) (fun j v hj => by
              rw [addr_add, Nat.zero_add, show ({ w with drawn := n } : World).cell? ⟨b, j, none⟩ = w.cell? ⟨b, j, none⟩ from rfl, cell_of_block hh]
              simp [List.getElem?_take] at hj
              exact hj.2)
            simpa [Builtin.firstCells, Nat.min_eq_left hle'] using this
          have hle' : len * s ≤ vs.size := Nat.le_trans (Nat.mul_le_mul_right s (by omega)) hcap
          have hxs : (vs.toList.take (len * s)).toArray.size = rows.length * s := by simp [hlenr, Nat.min_eq_left hle']
          have hxget : ∀ k, k < len * s → (vs.toList.take (len * s)).toArray[k]? = vs[k]? := fun k hk => by simp [List.getElem?_take, hk]
          obtain ⟨newCap, n, hnc, hrun⟩ := grow (some ⟨b, 0, none⟩) len cap0 _ hfit hbound hold
          obtain ⟨G2, le2, r2, v2⟩ := r1.regrow hb (rows' := rows ++ (frzR H ys).1) (w' := { w with heap := w.heap.push (.cells ((vs.toList.take (len * s)).toArray ++ arr ++ Builtin.zeroCells z.cells (newCap - (len + ys.length))) elem (0, 0)), drawn := n })
            (by simp [n1]; omega) (b' := w.heap.size) (sz := s) (cap := newCap) (elem := elem) (fz := (0, 0)) (vs := (vs.toList.take (len * s)).toArray ++ arr ++ Builtin.zeroCells z.cells (newCap - (len + ys.length))) hv'' (.inr rfl) (fun x o hx e => by
              have hlt := (Array.getElem?_eq_some_iff.1 e).1
              simp only
              rw [Array.getElem?_push, if_neg (by omega)]; exact e) (by simp) ⟨rfl, rfl, rfl⟩ (fun o _ => by simp) (by
              have := (zeroCells_get z.cells (newCap - (len + ys.length))).1
              simp only [Array.size_append, hxs, harr, this, hzsz, ← Nat.add_mul]
              exact Nat.mul_le_mul_right s (by omega)) (by simp [n1, hlenr]; omega) (fun r hr => by
              rcases List.mem_append.1 hr with hr | hr
              · exact hrows r hr
              · exact hrow1 r hr) (cellsOf _ rows 0 hxs hrows (fun i r j p hi hj => by
              obtain ⟨v, e, hr⟩ := hcells i r j p hi hj
              refine ⟨v, ?_, hr⟩
              rw [hxget]
              · exact e
              · have h1 : i < rows.length := (List.getElem?_eq_some_iff.1 hi).1
                have h2 : j < s := by rw [← hrows r (List.mem_of_getElem? hi)]; exact (List.getElem?_eq_some_iff.1 hj).1
                have := Nat.mul_le_mul_right s (show i + 1 ≤ len by omega)
                rw [Nat.add_mul, Nat.one_mul] at this; omega) _) (oneOf _ _ (fun o u hu => by
              by_cases ho : o < len * s
              · rw [hxget o ho] at hu; exact h1c _ _ hu
              · have := (Array.getElem?_eq_some_iff.1 hu).1
                rw [hxs, hlenr] at this; omega))
          have hl : (rows ++ (frzR H ys).1).length = len + ys.length := by simp [n1, hlenr]
          exact ⟨_, _, G2, _, _, hrun, le1.trans le2, r2, .msl (hl ▸ v2), ha⟩
  · exact ha.elim

end
end Go.Abs
