/- The abstract layer, part 19: calls that hand on what they made, unfrozen. -/
import Derived.Test.YtahkpjbhjkmedaaK18
namespace Go.Abs
set_option autoImplicit false
section
variable {P : Program} {H : AS}

/-- What the body owes where its results are handed on as they are, with the memory that it leaves. -/
def OwesO (P : Program) (fn : Func) (k : PV → AS → Prop) (e : Exit) (F' : AF) (H' : AS) : Prop :=
  (e = .normal ∨ e = .ret) ∧ match aResults P F' H' fn.results.toList with
    | some rs => k (packed rs) H'
    | none => False

theorem ACalls_open {f : FuncId} {fn : Func} {c : Code} {args : List PV} {k : PV → AS → Prop} (hf : P.funcs[f]? = some fn) (hb : fn.body = some c) (hname : (fn.name == "runtime.NumGoroutine") = false) (hargs : args.length ≤ fn.ntmps)
    (h : WF H → (∀ p ∈ args, Below H.next p) → T P fn.ntmps H.next c (frame0 args) H (OwesO P fn k)) : ACalls P f args H k := by
  refine ⟨⟨fn, hf, by rw [hb]; rfl, hname⟩, fun G w vs hr hall => ?_⟩
  have hlen := hall.get.1
  have hbel : ∀ p ∈ args, Below H.next p := fun p hp => by
    obtain ⟨j, hj⟩ := List.getElem?_of_mem hp
    have hlt : j < vs.length := by rw [← hlen]; exact (List.getElem?_eq_some_iff.1 hj).1
    exact (hall.get.2 j p vs[j] hj (List.getElem?_eq_getElem hlt)).isBelow (fun i l x e => by rw [← hr.next]; exact hr.dom i l x e) (fun i x e => by rw [← hr.next]; exact hr.mdom i x e)
  have hT := h hr.wf hbel G G w _ hr.dom' (.refl G) hr (by
    have := frame0_rep hall (fn.ntmps - vs.length)
    rwa [show vs.length + (fn.ntmps - vs.length) = fn.ntmps by omega] at this)
  refine calls_of_wp hf hb ?_
  rw [show vs.toArray.size = vs.length by simp]
  refine wp_mono hT ?_
  rintro e a' w' ⟨hfine, G', F', H', hle, hr', hF', hex, howe⟩
  split at howe
  · rename_i rs hrs
    obtain ⟨us, hrun, hall'⟩ := aResults_sound hr' hF' _ _ hrs
    have hrep := packed_rep hall'
    have hres : (results fn a'.tmps).run P w' = .ok (if h : us.length = 1 then us[0]'(by omega) else .tuple us.toArray) w' := by
      unfold results
      rw [Array.mapM_eq_mapM_toList]
      show Sem.run P (Bind.bind (Bind.bind (fn.results.toList.mapM (resOf a'.tmps)) (pure ∘ List.toArray)) _) w' = _
      simp only [Sem.run_bind, hrun, Result.andThen_ok, Function.comp, Sem.run_pure]
      simp
    have fin : a'.defers = [] ∧ ∃ v, (results fn a'.tmps).run P w' = .ok v w' ∧ ∃ v' G' q H', Ending.returned v = .returned v' ∧ G.le G' ∧ Rel G' H' w' ∧ Rep G' q v' ∧ k q H' :=
      ⟨hF'.defers, _, hres, _, _, _, _, rfl, hle, hr', hrep, howe⟩
    rcases hex with rfl | rfl
    · exact fin
    · exact fin
  · exact howe.elim

theorem owesO_one {fn : Func} {p : PV} {F' : AF} {H' : AS} {e : Exit} {k : PV → AS → Prop} (he : e = .normal ∨ e = .ret) (hr : aResults P F' H' fn.results.toList = some [p]) (hk : k p H') : OwesO P fn k e F' H' := by
  refine ⟨he, ?_⟩
  rw [hr]; exact hk

theorem OutIs.mk {lo id sz n : Nat} {H : AS} {rows : List (List PV)} (h1 : lo ≤ id) (h2 : id < H.next) (h3 : H.box id = some rows) (hn : rows.length = n) : OutIs lo H (.msl id n sz) sz rows := .inr ⟨id, h1, h2, by rw [hn], h3⟩

theorem OutIs.lower {lo lo' sz : Nat} {H : AS} {p : PV} {rows : List (List PV)} (h : OutIs lo H p sz rows) (hl : lo' ≤ lo) : OutIs lo' H p sz rows := by
  rcases h with ⟨rfl, rfl⟩ | ⟨id, h1, h2, h3, h4⟩
  · exact .nil
  · exact .inr ⟨id, by omega, h2, h3, h4⟩

/-- An argument that is nil may be told as the empty list. -/
theorem ACalls.of_nil {f : FuncId} {args args' : List PV} {k : PV → AS → Prop} (h : ACalls P f args H k) (ha : ∀ (G : Gh) (vs : List Value), RepAll G args' vs → RepAll G args vs) : ACalls P f args' H k :=
  ⟨h.1, fun G w vs hr hall => h.2 G w vs hr (ha G vs hall)⟩

end
end Go.Abs
