/- The abstract layer, part 5: the operations that write or make memory. -/
import Derived.Test.YtahkpjbhjkmedaaK4
namespace Go.Abs
set_option autoImplicit false

theorem index_ne {i row sz j k : Nat} (h : i ≠ row) (hj : j < sz) (hk : k < sz) : i * sz + j ≠ row * sz + k := by
  intro e
  rcases Nat.lt_or_gt_of_ne h with hlt | hlt
  · have := Nat.mul_le_mul_right sz (show i + 1 ≤ row from hlt)
    rw [Nat.add_mul, Nat.one_mul] at this; omega
  · have := Nat.mul_le_mul_right sz (show row + 1 ≤ i from hlt)
    rw [Nat.add_mul, Nat.one_mul] at this; omega

theorem splice_length {r cs : List PV} {off : Nat} (h : off + cs.length ≤ r.length) : (splice r off cs).length = r.length := by
  simp [splice]; omega

theorem splice_get {r cs : List PV} {off : Nat} (h : off + cs.length ≤ r.length) (j : Nat) :
    (splice r off cs)[j]? = if off ≤ j ∧ j < off + cs.length then cs[j - off]? else r[j]? := by
  have ht : (r.take off).length = off := by simp; omega
  unfold splice
  by_cases h1 : j < off
  · rw [List.append_assoc, List.getElem?_append_left (by omega), List.getElem?_take, if_pos h1, if_neg (by omega)]
  · rw [List.append_assoc, List.getElem?_append_right (by omega), ht]
    by_cases h2 : j < off + cs.length
    · rw [List.getElem?_append_left (by omega), if_pos (by omega)]
    · rw [List.getElem?_append_right (by omega), List.getElem?_drop, if_neg (by omega)]
      congr 1; omega

section
variable {P : Program} {G : Gh} {H : AS} {w : World}

/-- The cells of a value that may be stored. -/
theorem Rep.cells {v : PV} {y : Value} (h : Rep G v y) (ho : v.okCells = true) : v.cells.length = y.cells.size ∧ (∀ (j : Nat) (p : PV) (u : Value), v.cells[j]? = some p → y.cells[j]? = some u → Rep G p u) ∧
    ∀ (j : Nat) (u : Value), y.cells[j]? = some u → u.oneCell' = true := by
  have one : ∀ {v : PV} {y : Value}, Rep G v y → v.cells = [v] → y.cells = #[y] → y.oneCell' = true → v.cells.length = y.cells.size ∧ (∀ (j : Nat) (p : PV) (u : Value), v.cells[j]? = some p → y.cells[j]? = some u → Rep G p u) ∧
      ∀ (j : Nat) (u : Value), y.cells[j]? = some u → u.oneCell' = true := by
    intro v y h e1 e2 e3
    rw [e1, e2]
    refine ⟨rfl, fun j p u hp hu => ?_, fun j u hu => ?_⟩
    · cases j with
      | zero => simp at hp hu; subst hp; subst hu; exact h
      | succ j => simp at hp
    · cases j with
      | zero => simp at hu; subst hu; exact e3
      | succ j => simp at hu
  cases h with
  | val y => cases y <;> first | (exact one (.val _) rfl rfl rfl) | (simp [PV.okCells, PV.atomic] at ho)
  | junk y => simp [PV.okCells, PV.atomic] at ho
  | ptr e => exact one (.ptr e) rfl rfl rfl
  | rptr vs h1 h2 h3 => exact one (.rptr vs h1 h2 h3) rfl rfl rfl
  | slice vs h0 h1 h2 h3 h4 => exact one (.slice vs h0 h1 h2 h3 h4) rfl rfl rfl
  | nilSlice => exact one .nilSlice rfl rfl rfl
  | emptySlice => exact one .emptySlice rfl rfl rfl
  | msl e => exact one (.msl e) rfl rfl rfl
  | func h1 h2 => exact one (.func h1 h2) rfl rfl rfl
  | iface h1 => exact one (.iface h1) rfl rfl rfl
  | agg h1 h2 h3 => exact ⟨h1, h3, h2⟩
  | tuple h1 h2 => simp [PV.okCells, PV.atomic] at ho
  | map e => exact one (.map e) rfl rfl rfl

theorem astore_sound (h : Rel G H w) {t : TypeId} {p v : PV} {x y : Value} {H' : AS} (hp : Rep G p x) (hv : Rep G v y) (hs : astore P H t p v = some H') :
    ∃ w', (Instr.storeAt t x y).run P w = .ok () w' ∧ Rel G H' w' := by
  unfold astore at hs
  split at hs
  · rename_i id vl row off
    split at hs
    · rename_i rows sz hb hsz
      split at hs
      · rename_i hc
        obtain ⟨hlen, hcl, hok⟩ := hc
        simp only [Option.bind_eq_some_iff] at hs
        obtain ⟨r, hrow, hs⟩ := hs
        split at hs
        · rename_i hle
          simp at hs
          subst hs
          obtain ⟨c1, c2, c3⟩ := hv.cells hok
          cases hp with
          | ptr hview =>
            rename_i b s cap
            obtain ⟨b', s', cap', vs, elem, fz, hv', hh, hfz, hcap, hlencap, hrows, hcells, h1c, hro⟩ := h.box id rows hb
            rw [hlen, hview] at hv'
            obtain ⟨rfl, rfl, rfl⟩ : b = b' ∧ s = s' ∧ cap = cap' := by simpa using hv'
            have hr : r.length = s := hrows r (List.mem_of_getElem? hrow)
            have hrowlt : row < rows.length := (List.getElem?_eq_some_iff.1 hrow).1
            have hend : row * s + s ≤ vs.size := by
              have : (row + 1) * s ≤ cap * s := Nat.mul_le_mul_right s (by omega)
              rw [Nat.add_mul, Nat.one_mul] at this; omega
            have hys : y.cells.size = sz := by rw [← c1]; exact hcl
            have hcellat : ∀ o, w.cell? ⟨b, o, none⟩ = vs[o]? := fun o => cell_of_block hh
            have hrun := run_storeCells_cells (P := P) b (row * s + off) y.cells.toList 0 w (fun j hj => by
                simp at hj
                rw [hcellat]
                have : row * s + off + j < vs.size := by omega
                simp [this]) (fun j hj => by
                simp at hj
                simp only [World.frozen?, hh]
                have := hfz (row * s + off + 0 + j) (by omega)
                simpa using this) (fun u hu => by
                obtain ⟨j, hj⟩ := List.getElem?_of_mem hu
                exact c3 j u (by simpa using hj))
            refine ⟨w.setCells b (row * s + off) y.cells.toList, ?_, ?_⟩
            · simp only [Nat.add_zero] at hrun
              simp [Instr.storeAt, Instr.sureAddr, storeVar, runSize hsz, hys, hrun]
            · have hv0 : G.view id rows.length = some (b, s, cap) := by rw [hlen]; exact hview
              refine h.write hb (by simp) ?_ hv0 (fun b' hb' => setCells_heap_ne b b' hb' _ w _) (setCells_rest b _ w _) hro ⟨vs, elem, fz, hh⟩
              refine ⟨b, s, cap, writeAll vs (row * s + off) y.cells.toList, elem, fz, by simpa using hv0, setCells_heap b _ w _ vs elem fz hh, ?_, ?_, by simpa using hlencap, ?_, ?_, ?_, hro⟩
              · rw [writeAll_size]; exact hfz
              · rw [writeAll_size]; exact hcap
              · intro r' hr'
                rw [List.mem_iff_getElem?] at hr'
                obtain ⟨i, hi⟩ := hr'
                rw [List.getElem?_set] at hi
                by_cases e : row = i
                · rw [if_pos e, if_pos (e ▸ hrowlt)] at hi
                  simp at hi; rw [← hi, splice_length (by omega)]; exact hr
                · rw [if_neg e] at hi; exact hrows r' (List.mem_of_getElem? hi)
              · intro i r' j q hi hj
                rw [writeAll_get _ _ _ _ (by simp; omega)]
                rw [List.getElem?_set] at hi
                by_cases e : row = i
                · subst e
                  rw [if_pos rfl, if_pos hrowlt] at hi
                  simp at hi
                  rw [← hi, splice_get (by omega)] at hj
                  split at hj
                  · rename_i hin
                    rw [if_pos (by simp; omega)]
                    have hlt : j - off < y.cells.size := by omega
                    refine ⟨y.cells[j - off], ?_, c2 (j - off) q _ hj (by simp [hlt])⟩
                    rw [show row * s + j - (row * s + off) = j - off by omega]
                    simp [hlt]
                  · rename_i hin
                    rw [if_neg (by simp; omega)]
                    exact hcells row r j q hrow hj
                · rw [if_neg e] at hi
                  have hjl : j < s := by
                    have := (List.getElem?_eq_some_iff.1 hj).1
                    rw [hrows r' (List.mem_of_getElem? hi)] at this; exact this
                  rw [if_neg ?_]
                  · exact hcells i r' j q hi hj
                  · simp
                    intro h1
                    by_cases h2 : i * s + j < row * s + off + y.cells.size
                    · exfalso
                      have := index_ne (Ne.symm e) hjl (k := i * s + j - row * s) (by omega)
                      omega
                    · omega
              · intro o u hu
                rw [writeAll_get _ _ _ _ (by simp; omega)] at hu
                split at hu
                · exact c3 _ u (by simpa using hu)
                · exact h1c _ _ hu
        · cases hs
      · cases hs
    · cases hs
  · cases hs

/-- A stretch of a list of values that represent a list. -/
def RepL (G : Gh) (l : List PV) (vs : Nat → Value) : Prop := ∀ (j : Nat) (p : PV), l[j]? = some p → Rep G p (vs j)

theorem RepL.mono {G' : Gh} (hle : G.le G') {l : List PV} {vs : Nat → Value} (h : RepL G l vs) : RepL G' l vs := fun j p hp => (h j p hp).mono hle

theorem frz_sound (h : Rel G H w) {p : PV} {v : Value} (hp : Rep G p v) : ∃ G', G.le G' ∧ Rel G' (frz H p).2 w ∧ Rep G' (frz H p).1 v := by
  unfold frz
  split
  · cases hp; exact ⟨G, .refl G, h, .nilSlice⟩
  · rename_i id len sz
    split
    · rename_i rows hb
      split
      · rename_i hlen
        obtain ⟨G', hle, hrel, hrep⟩ := h.freeze hb
        exact ⟨G', hle, hrel, hrep sz v (by rw [hlen]; exact hp)⟩
      · exact ⟨G, .refl G, h, hp⟩
    · exact ⟨G, .refl G, h, hp⟩
  · exact ⟨G, .refl G, h, hp⟩

theorem frzL_sound : ∀ (l : List PV) {G : Gh} {H : AS} (_ : Rel G H w) {vs : Nat → Value} (_ : RepL G l vs),
    ∃ G', G.le G' ∧ Rel G' (frzL H l).2 w ∧ (frzL H l).1.length = l.length ∧ RepL G' (frzL H l).1 vs
  | [], G, H, h, vs, _ => ⟨G, .refl G, h, rfl, fun j p hp => by simp [frzL] at hp⟩
  | p :: ps, G, H, h, vs, hl => by
    obtain ⟨G1, le1, r1, p1⟩ := frz_sound h (hl 0 p rfl)
    obtain ⟨G2, le2, r2, n2, p2⟩ := frzL_sound ps r1 (vs := fun j => vs (j + 1)) (fun j q hq => (hl (j + 1) q (by simpa using hq)).mono le1)
    refine ⟨G2, le1.trans le2, r2, by simp [frzL, n2], fun j q hq => ?_⟩
    cases j with
    | zero => simp [frzL] at hq; subst hq; exact p1.mono le2
    | succ j => simp [frzL] at hq; exact p2 j q hq

def RepR (G : Gh) (rows : List (List PV)) (vs : Nat → Nat → Value) : Prop := ∀ (i : Nat) (r : List PV), rows[i]? = some r → RepL G r (vs i)

theorem frzR_sound : ∀ (l : List (List PV)) {G : Gh} {H : AS} (_ : Rel G H w) {vs : Nat → Nat → Value} (_ : RepR G l vs),
    ∃ G', G.le G' ∧ Rel G' (frzR H l).2 w ∧ (frzR H l).1.length = l.length ∧ (∀ (i : Nat) (r : List PV), (frzR H l).1[i]? = some r → ∃ r0, l[i]? = some r0 ∧ r.length = r0.length) ∧ RepR G' (frzR H l).1 vs
  | [], G, H, h, vs, _ => ⟨G, .refl G, h, rfl, fun i r hr => by simp [frzR] at hr, fun i r hr => by simp [frzR] at hr⟩
  | p :: ps, G, H, h, vs, hl => by
    obtain ⟨G1, le1, r1, n1, p1⟩ := frzL_sound p h (hl 0 p rfl)
    obtain ⟨G2, le2, r2, n2, m2, p2⟩ := frzR_sound ps r1 (vs := fun j => vs (j + 1)) (fun i r hr => (hl (i + 1) r (by simpa using hr)).mono le1)
    refine ⟨G2, le1.trans le2, r2, by simp [frzR, n2], fun i r hr => ?_, fun i r hr => ?_⟩
    · cases i with
      | zero => simp [frzR] at hr; subst hr; exact ⟨p, rfl, n1⟩
      | succ i => simp [frzR] at hr; simpa using m2 i r hr
    · cases i with
      | zero => simp [frzR] at hr; subst hr; exact p1.mono le2
      | succ i => simp [frzR] at hr; exact p2 i r hr

end
end Go.Abs
