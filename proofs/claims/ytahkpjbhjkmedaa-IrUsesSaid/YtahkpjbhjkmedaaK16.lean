/- The abstract layer, part 16: a list that grows. -/
import Derived.Test.YtahkpjbhjkmedaaK15
namespace Go.Abs
set_option autoImplicit false
set_option linter.unusedSimpArgs false

/-- A list of one's own, or nil while it is empty; its box is not below lo. -/
def OutIs (lo : Nat) (H : AS) (p : PV) (sz : Nat) (rows : List (List PV)) : Prop :=
  (rows = [] ∧ p = .nil) ∨ ∃ id, lo ≤ id ∧ id < H.next ∧ p = .msl id rows.length sz ∧ H.box id = some rows

/-- What every memory below lo holds still holds. -/
def Above (lo : Nat) (H H' : AS) : Prop := ∀ H0 : AS, H0.next ≤ lo → H0.Ext H → H0.Ext H'

theorem Above.box {lo : Nat} {H H' : AS} (h : Above lo H H') (hlo : lo ≤ H.next) {j : Nat} (hj : j < lo) : H'.box j = H.box j :=
  (h ⟨H.box, H.mp, lo, H.color⟩ (Nat.le_refl _) ⟨hlo, fun _ _ => rfl, fun _ _ => rfl, rfl⟩).box j hj
theorem Above.next {lo : Nat} {H H' : AS} (h : Above lo H H') (hlo : lo ≤ H.next) : lo ≤ H'.next :=
  (h ⟨H.box, H.mp, lo, H.color⟩ (Nat.le_refl _) ⟨hlo, fun _ _ => rfl, fun _ _ => rfl, rfl⟩).next

theorem OutIs.nil {lo : Nat} {H : AS} {sz : Nat} : OutIs lo H .nil sz [] := .inl ⟨rfl, rfl⟩

theorem Above.refl {lo : Nat} {H : AS} : Above lo H H := fun _ _ h => h

theorem aappend_out {P : Program} {lo : Nat} {H : AS} {p : PV} {sz : Nat} {rows : List (List PV)} (h : OutIs lo H p sz rows) (hlo : lo ≤ H.next) {sT xT elem e2 : TypeId} {zs : List PV} {by_ : Nat}
    (h1 : P.underlying sT = some (.slice elem)) (h2 : P.underlying xT = some (.slice e2)) (hsz : szOf P elem = some sz) (hz : zeroOf P elem = some zs) (hb : bytesOf P elem = some by_)
    (hz1 : zs.length = sz) (hz2 : zs.all PV.atomic = true) (hby : 0 < by_) {y : PV} {ys : List (List PV)} (hy : srcOf H sz y = some ys) (hne : ys ≠ []) (hfr : ∀ r ∈ ys, ∀ p ∈ r, Frozen p)
    (hsize : (rows.length + ys.length) * by_ ≤ 2 ^ 47) {k : PV → AS → Prop} (hk : ∀ p' H', OutIs lo H' p' sz (rows ++ ys) → Above lo H H' → k p' H') : aappend P H sT xT p y k := by
  unfold aappend
  simp only [h1, h2, hsz, hz, hb, hy, frzR_id hfr]
  refine ⟨⟨hz1, hz2, hby⟩, ?_⟩
  rcases h with ⟨rfl, rfl⟩ | ⟨id, hid, hlt, rfl, hbox⟩
  · have hl : ¬ ys.length = 0 := by simpa using hne
    simp only [hl, if_false]
    refine ⟨by simpa using hsize, hk _ _ (.inr ⟨H.next, hlo, by simp, by simp, by simp⟩) fun H0 h0 hext => ?_⟩
    exact AS.Ext.bump (AS.Ext.setBox (by omega) hext)
  · simp only [hbox]
    refine ⟨⟨trivial, trivial, hsize⟩, hk _ _ (.inr ⟨id, hid, by simpa using hlt, by simp, by simp⟩) fun H0 h0 hext => ?_⟩
    exact AS.Ext.setBox (by omega) hext

theorem frz_out {lo : Nat} {H : AS} {p : PV} {sz : Nat} {rows : List (List PV)} (h : OutIs lo H p sz rows) : ∃ H', frz H p = (PV.sl H.color sz rows, H') ∧ Above lo H H' := by
  rcases h with ⟨rfl, rfl⟩ | ⟨id, hid, hlt, rfl, hbox⟩
  · exact ⟨H, rfl, .refl⟩
  · refine ⟨H.kill id, by simp [frz, hbox], fun H0 h0 hext => AS.Ext.kill (by omega) hext⟩

theorem OutIs.atomic {lo : Nat} {H : AS} {p : PV} {sz : Nat} {rows : List (List PV)} (h : OutIs lo H p sz rows) : p.atomic = true := by
  rcases h with ⟨rfl, rfl⟩ | ⟨id, hid, hlt, rfl, hbox⟩ <;> rfl

theorem OutIs.okCells {lo : Nat} {H : AS} {p : PV} {sz : Nat} {rows : List (List PV)} (h : OutIs lo H p sz rows) : p.okCells = true := by
  rcases h with ⟨rfl, rfl⟩ | ⟨id, hid, hlt, rfl, hbox⟩ <;> rfl

theorem OutIs.cells {lo : Nat} {H : AS} {p : PV} {sz : Nat} {rows : List (List PV)} (h : OutIs lo H p sz rows) : p.cells = [p] := by
  rcases h with ⟨rfl, rfl⟩ | ⟨id, hid, hlt, rfl, hbox⟩ <;> rfl

/-- A list of one's own outlives what is written elsewhere. -/
theorem OutIs.keep {lo : Nat} {H H' : AS} {p : PV} {sz : Nat} {rows : List (List PV)} (h : OutIs lo H p sz rows) (hn : H.next ≤ H'.next) (hb : ∀ id, lo ≤ id → id < H.next → H'.box id = H.box id) : OutIs lo H' p sz rows := by
  rcases h with ⟨rfl, rfl⟩ | ⟨id, hid, hlt, rfl, hbox⟩
  · exact .nil
  · exact .inr ⟨id, hid, Nat.lt_of_lt_of_le hlt hn, rfl, by rw [hb id hid hlt]; exact hbox⟩

/-- One result, a list of one's own. -/
theorem owes_out {P : Program} {H : AS} {fn : Func} {p : PV} {F' : AF} {H' : AS} {e : Exit} {lo sz : Nat} {rows : List (List PV)} (he : e = .normal ∨ e = .ret) (hwf : WF H) (hr : aResults P F' H' fn.results.toList = some [p])
    (hout : OutIs lo H' p sz rows) (hlo : H.next ≤ lo) (hext : H.Ext H') (hb : ∀ r ∈ rows, ∀ p ∈ r, Below H.next p) : Owes P fn H (fun r H'' => r = PV.sl H.color sz rows ∧ H'' = H) e F' H' := by
  obtain ⟨H2, hf, hab⟩ := frz_out hout
  have hv : frzV H' p = (PV.sl H'.color sz rows, H2) := by
    rcases hout with ⟨rfl, rfl⟩ | ⟨id, hid, hlt, rfl, hbox⟩ <;> exact hf
  refine owes_pure he hwf hr ?_ ?_ ?_ <;> simp [frzVs, hv, packed]
  · exact hab H hlo hext
  · exact hb
  · rw [hext.color]

theorem frzL_append {H : AS} {ps : List PV} : ∀ {pre : List PV}, (∀ x ∈ pre, Frozen x) → frzL H (pre ++ ps) = (pre ++ (frzL H ps).1, (frzL H ps).2)
  | [], _ => rfl
  | p :: pre, h => by
    have ih := frzL_append (H := H) (ps := ps) (pre := pre) fun q hq => h q (List.mem_cons_of_mem _ hq)
    simp [frzL, frz_id (h p (by simp)), ih]

/-- One result of several cells, one of them a list of one's own. -/
theorem owes_agg_out {P : Program} {H : AS} {fn : Func} {pre post : List PV} {p : PV} {F' : AF} {H' : AS} {e : Exit} {lo sz : Nat} {rows : List (List PV)} (he : e = .normal ∨ e = .ret) (hwf : WF H) (hr : aResults P F' H' fn.results.toList = some [.agg (pre ++ p :: post)])
    (hpre : ∀ x ∈ pre, Frozen x) (hpost : ∀ x ∈ post, Frozen x) (hout : OutIs lo H' p sz rows) (hlo : H.next ≤ lo) (hext : H.Ext H') (hb : ∀ x ∈ pre ++ PV.sl H.color sz rows :: post, Below H.next x) :
    Owes P fn H (fun r H'' => r = .agg (pre ++ PV.sl H.color sz rows :: post) ∧ H'' = H) e F' H' := by
  obtain ⟨H2, hf, hab⟩ := frz_out hout
  have hv : frzL H' (pre ++ p :: post) = (pre ++ PV.sl H.color sz rows :: post, H2) := by
    rw [frzL_append hpre]; simp [frzL, hf, frzL_id hpost, hext.color]
  refine owes_pure he hwf hr ?_ ?_ ?_ <;> simp only [frzVs, frzV, hv, packed]
  · exact hab H hlo hext
  · intro x hx
    rw [List.mem_singleton] at hx
    subst hx
    simpa using hb

@[congr] theorem aappend_congr {P : Program} {H : AS} {s t : TypeId} {x x' y y' : PV} {k : PV → AS → Prop} (h : x = x') (h' : y = y') : aappend P H s t x y k = aappend P H s t x' y' k := by rw [h, h']

theorem take_map_succ {α β : Type} {xs : List α} {f : α → β} {i : Nat} (h : i < xs.length) : (xs.map f).take (i + 1) = (xs.take i).map f ++ [f xs[i]] := by
  rw [← List.map_take, List.take_succ_eq_append_getElem h, List.map_append]; rfl

end Go.Abs
