/- GraphcoreLadders is proved: whatever the text, the law answers true, and the text reads as it did. The card: the listed variables are tied to the program's text. No condition. -/
import Derived.Test.YthabhakehajjnaaGreatDoorA5
import Derived.ChangeMaps5
import Derived.Test.YthabhakehajjnaaGreatDoorA7
namespace Go.Proofs.YthabhakehajjnaaGreatDoor
open Go.ChangeShapes Go.WideShapes Go.ChangeAt Go.RowKit Go.Abs
set_option maxRecDepth 100000
theorem graphcoreLadders_contract (H : Type) (enc : TypeId × Value → H) (W : World) (base : Nat) (args : Array Value) (ds gs : List (DataW H)) (before : List MemPlace)
    (hval0 : ∀ (j : Nat) t v, Tryz.f5.params[j]? = some t → args[j]? = some v → Value.okWide Tryz.prog W .any base t v)
    (hW : DataW.Whole enc Tryz.prog Tryz.f5.params.toList Rows.graphcoreLaddersSpec.vars false W args.toList ds gs before) (hL : laidMetH Tryz.prog laids W) (hs : W.ShapedOpen Tryz.prog) :
    Calls Tryz.prog 5 args W fun e W' => ∃ v, e = .returned v ∧ Rows.graphcoreLaddersSpec.post enc Tryz.prog Tryz.f5 false true false false W args v W' := by
  have hval : ∀ (j : Nat) t v, Tryz.f5.params[j]? = some t → args[j]? = some v → Value.okWide Tryz.prog W .any base t v := hval0
  have hW' : DataW.Whole enc Tryz.prog Tryz.f5.params.toList [] false W args.toList ds gs before := hW
  have hlt := hW'.lt
  obtain ⟨p, q, hA0, hV, rfl, hfz, hnd⟩ := hW'
  have hA : DataW.TrodAll enc Tryz.prog W 0 (fun _ => true) true Tryz.f5.params.toList args.toList ds p := hA0
  rw [Tryz.params5] at hA
  obtain ⟨v0, d0, rfl, rfl, h0⟩ := trodAll_one hA
  obtain ⟨rfl, rfl⟩ := trodVars_none hV
  obtain ⟨s, rfl, rfl, rfl, -⟩ := Go.ChangeMaps.open_string Tryz.underlying9 (hval 0 9 v0 rfl rfl) h0
  refine (lawLadders (AS.start 1) s rfl (fun _ => rfl) (fun _ => rfl) (Gh.start W 0) W [.string s] (noCol_start (by decide)) (rel_start W 0 1 (amb hL hs)) ⟨.val _, trivial⟩).mono fun e w' ⟨v, G', q, H', he, hle, hrel, hrep, hq, _⟩ => ?_
  subst hq
  cases hrep
  have hb := below_of_rel hle hrel
  refine ⟨_, he, [_], [], _, [], [], [], hW, ?_, ?_, rfl, hb.frame _, fun h => by cases h⟩
  · exact trodAll_mk1 (trod_true _ _ _ _ _)
  · exact trodAll_mk1 (hb.trod laid_ readable9 (by decide) h0 fun z hz => hlt z (by simp [hz]))
theorem graphcoreLadders_reads (os : Os) {H : Type} (enc : TypeId × Value → H) : ∃ places, DataW.whole enc Tryz.prog ((World.doorLaid Tryz.prog 2000 os).forCall (fun _ _ => 0) ⟨#[], #[Value.string ⟨#[]⟩], []⟩).memory Tryz.f5.params.toList Rows.graphcoreLaddersSpec.vars false #[Value.string ⟨#[]⟩].toList 8 = some ([.lit (.string [])], [], places) :=
  ⟨[], by kernel_rfl⟩
theorem graphcoreLadders_lifted (os : Os) (started : os.Started) (H : Type) (enc : TypeId × Value → H) (F : Stop.Interp) :
    ReturnsInHanded {} Tryz.checked os 5 .any ((OpenSpec.ofChange Rows.graphcoreLaddersSpec).preRow enc Tryz.prog Tryz.f5 Rows.graphcoreLaddersRow.domain false Rows.graphcoreLaddersRow.laid) (((OpenSpec.ofChange Rows.graphcoreLaddersSpec).at F).post enc Tryz.prog Tryz.f5 false true false false) := by
  obtain ⟨places, hx⟩ := graphcoreLadders_reads os enc
  refine returnsInHanded_of_row (C := Tryz.checked) (s := OpenSpec.ofChange Rows.graphcoreLaddersSpec) own_ started (by kernel_rfl) Tryz.func5
    (witness_row_atRef (enc := enc) (C := Tryz.checked) false (World.doorLaid Tryz.prog 2000 os) #[Value.string ⟨#[]⟩] rfl (by kernel_rfl) (by kernel_rfl) (by kernel_rfl)
      (OpenSpec.preRow_of_cond 8 hx (by kernel_rfl) (fun k hk => by cases hk) (by kernel_rfl) (laid_met os _))) ?_
  intro W base args ds gs before hval hW _ _ _ hL hs _
  exact graphcoreLadders_contract H enc W base args ds gs before hval hW hL hs
theorem graphcoreLadders_said : Rows.GraphcoreLaddersSaid :=
  OpenClaim.holds_of_cond 5 Tryz.f5 rfl rfl rfl rfl rfl rfl rfl ⟨rfl, rfl, rfl, rfl, rfl⟩ rfl rfl rfl rfl rfl (by kernel_rfl) Tryz.func5 (by kernel_rfl)
    (of_decide_eq_true (by kernel_rfl)) (by unfold Func.isWrapper; first | (rw [if_pos (by decide +kernel)]; kernel_rfl) | (rw [if_neg (by decide +kernel)]; exact ⟨rfl, rfl⟩))
    (fun os started H enc _ F => by rw [OpenClaim.pre_eq_preRow]; exact graphcoreLadders_lifted os started H enc F)
theorem graphcoreLadders_plain (f : FuncId) (fn : Func) (hf : Tryz.pinned.checked.prog.funcNamed "relay/relaylaw11.GraphcoreLadders" = some f) (hfn : Tryz.pinned.checked.prog.funcs[f]? = some fn) :
    true = Tryz.pinned.checked.prog.looks [] ∧ ∀ (j : Nat) t, fn.params[j]? = some t → Tryz.pinned.checked.prog.wantsStandIn t = false := by
  obtain rfl : f = 5 := Option.some.inj ((show Tryz.prog.funcNamed "relay/relaylaw11.GraphcoreLadders" = some 5 by kernel_rfl).symm.trans hf) |>.symm
  obtain rfl : fn = Tryz.f5 := (Option.some.inj (Tryz.func5.symm.trans hfn)).symm
  refine ⟨by kernel_rfl, fun j t ht => ?_⟩
  rw [Tryz.params5] at ht
  obtain rfl : t = 9 := by simpa using Array.mem_of_getElem? ht
  exact (show Tryz.prog.wantsStandIn 9 = false by kernel_rfl)
theorem graphcoreLadders_holds : Rows.GraphcoreLaddersCardSaid :=
  Claim7.holds_tied_plain_at .later [] _ _ _ _ graphcoreLadders_said (fun _ h => by cases h) (by kernel_rfl) (fun _ h => by cases h) graphcoreLadders_row_tie rfl ⟨rfl, rfl⟩ (by kernel_rfl) rfl graphcoreLadders_plain (by kernel_rfl)
end Go.Proofs.YthabhakehajjnaaGreatDoor
