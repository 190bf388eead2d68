/- GraphcoreRungs is proved: whatever the text and the number, the law answers true, and both read as they did. The card: the listed variables are tied to the program's text. No condition. -/
import Derived.Test.YthabhakehajjnaaGreatDoorA5
import Derived.ChangeMaps5
import Derived.Test.YthabhakehajjnaaGreatDoorA7
namespace Go.Proofs.YthabhakehajjnaaGreatDoor
open Go.ChangeShapes Go.WideShapes Go.ChangeAt Go.RowKit Go.Abs
set_option maxRecDepth 100000
theorem int_of {W : World} {base : Nat} {v : Value} (h : Value.okWide Tryz.prog W .any base 3 v) : ∃ n : Int, v = .int .i64 n := by
  unfold Value.okWide at h
  rw [Tryz.underlying3] at h
  unfold Cell.okWide at h
  rw [Tryz.underlying3] at h
  unfold Cell.ok at h
  rw [Tryz.underlying3] at h
  cases v <;> simp only [] at h <;> try exact h.elim
  rename_i k n
  obtain ⟨rfl, h1, h2⟩ := h
  exact ⟨n, rfl⟩
theorem graphcoreRungs_contract (H : Type) (enc : TypeId × Value → H) (W : World) (base : Nat) (args : Array Value) (ds gs : List (DataW H)) (before : List MemPlace)
    (hval0 : ∀ (j : Nat) t v, Tryz.f6.params[j]? = some t → args[j]? = some v → Value.okWide Tryz.prog W .any base t v)
    (hW : DataW.Whole enc Tryz.prog Tryz.f6.params.toList Rows.graphcoreRungsSpec.vars false W args.toList ds gs before) (hL : laidMetH Tryz.prog laids W) (hs : W.ShapedOpen Tryz.prog) :
    Calls Tryz.prog 6 args W fun e W' => ∃ v, e = .returned v ∧ Rows.graphcoreRungsSpec.post enc Tryz.prog Tryz.f6 false true false false W args v W' := by
  have hval : ∀ (j : Nat) t v, Tryz.f6.params[j]? = some t → args[j]? = some v → Value.okWide Tryz.prog W .any base t v := hval0
  have hW' : DataW.Whole enc Tryz.prog Tryz.f6.params.toList [] false W args.toList ds gs before := hW
  have hlt := hW'.lt
  obtain ⟨p, q, hA0, hV, rfl, hfz, hnd⟩ := hW'
  have hA : DataW.TrodAll enc Tryz.prog W 0 (fun _ => true) true Tryz.f6.params.toList args.toList ds p := hA0
  rw [Tryz.params6] at hA
  obtain ⟨v0, v1, d0, d1, p0, p1, rfl, rfl, rfl, h0, h1⟩ := trodAll_two hA
  obtain ⟨rfl, rfl⟩ := trodVars_none hV
  obtain ⟨s, rfl, rfl, hp0, -⟩ := Go.ChangeMaps.open_string Tryz.underlying9 (hval 0 9 v0 rfl rfl) h0
  obtain ⟨k, rfl⟩ := int_of (hval 1 3 v1 rfl rfl)
  refine (((lawRungs (AS.start 1) s k (by decide)).text Tryz.func6 rfl).2 (Gh.start W 0) W [.string s, .int .i64 k] (rel_start W 0 1 (amb hL hs)) ⟨.val _, .val _, trivial⟩).mono fun e w' ⟨v, G', q, H', he, hle, hrel, hrep, hq, _⟩ => ?_
  subst hq
  cases hrep
  have hb := below_of_rel hle hrel
  refine ⟨_, he, [_, d1], [], _, [], p0 ++ p1, [], hW, ?_, ?_, rfl, hb.frame _, fun h => by cases h⟩
  · exact trodAll_mk1 (trod_true _ _ _ _ _)
  · exact trodAll_mk2 (hb.trod laid_ readable9 (by decide) h0 fun z hz => hlt z (by simp [hz])) (hb.trod laid_ readable3 (by decide) h1 fun z hz => hlt z (by simp [hz]))
theorem graphcoreRungs_reads (os : Os) {H : Type} (enc : TypeId × Value → H) : ∃ places, DataW.whole enc Tryz.prog ((World.doorLaid Tryz.prog 2000 os).forCall (fun _ _ => 0) ⟨#[], #[Value.string ⟨#[]⟩, Value.int .i64 0], []⟩).memory Tryz.f6.params.toList Rows.graphcoreRungsSpec.vars false #[Value.string ⟨#[]⟩, Value.int .i64 0].toList 8 = some ([.lit (.string []), .lit (.int .i64 0)], [], places) :=
  ⟨[], by kernel_rfl⟩
theorem graphcoreRungs_lifted (os : Os) (started : os.Started) (H : Type) (enc : TypeId × Value → H) (F : Stop.Interp) :
    ReturnsInHanded {} Tryz.checked os 6 .any ((OpenSpec.ofChange Rows.graphcoreRungsSpec).preRow enc Tryz.prog Tryz.f6 Rows.graphcoreRungsRow.domain false Rows.graphcoreRungsRow.laid) (((OpenSpec.ofChange Rows.graphcoreRungsSpec).at F).post enc Tryz.prog Tryz.f6 false true false false) := by
  obtain ⟨places, hx⟩ := graphcoreRungs_reads os enc
  refine returnsInHanded_of_row (C := Tryz.checked) (s := OpenSpec.ofChange Rows.graphcoreRungsSpec) own_ started (by kernel_rfl) Tryz.func6
    (witness_row_atRef (enc := enc) (C := Tryz.checked) false (World.doorLaid Tryz.prog 2000 os) #[Value.string ⟨#[]⟩, Value.int .i64 0] rfl (by kernel_rfl) (by kernel_rfl) (by kernel_rfl)
      (OpenSpec.preRow_of_cond 8 hx (by kernel_rfl) (fun k hk => by cases hk) (by kernel_rfl) (laid_met os _))) ?_
  intro W base args ds gs before hval hW _ _ _ hL hs _
  exact graphcoreRungs_contract H enc W base args ds gs before hval hW hL hs
theorem graphcoreRungs_said : Rows.GraphcoreRungsSaid :=
  OpenClaim.holds_of_cond 6 Tryz.f6 rfl rfl rfl rfl rfl rfl rfl ⟨rfl, rfl, rfl, rfl, rfl⟩ rfl rfl rfl rfl rfl (by kernel_rfl) Tryz.func6 (by kernel_rfl)
    (of_decide_eq_true (by kernel_rfl)) (by unfold Func.isWrapper; first | (rw [if_pos (by decide +kernel)]; kernel_rfl) | (rw [if_neg (by decide +kernel)]; exact ⟨rfl, rfl⟩))
    (fun os started H enc _ F => by rw [OpenClaim.pre_eq_preRow]; exact graphcoreRungs_lifted os started H enc F)
theorem graphcoreRungs_plain (f : FuncId) (fn : Func) (hf : Tryz.pinned.checked.prog.funcNamed "relay/relaylaw11.GraphcoreRungs" = some f) (hfn : Tryz.pinned.checked.prog.funcs[f]? = some fn) :
    true = Tryz.pinned.checked.prog.looks [] ∧ ∀ (j : Nat) t, fn.params[j]? = some t → Tryz.pinned.checked.prog.wantsStandIn t = false := by
  obtain rfl : f = 6 := Option.some.inj ((show Tryz.prog.funcNamed "relay/relaylaw11.GraphcoreRungs" = some 6 by kernel_rfl).symm.trans hf) |>.symm
  obtain rfl : fn = Tryz.f6 := (Option.some.inj (Tryz.func6.symm.trans hfn)).symm
  refine ⟨by kernel_rfl, fun j t ht => ?_⟩
  rw [Tryz.params6] at ht
  have h3 : t = 9 ∨ t = 3 := by
    rcases j with _ | _ | j
    · exact .inl (by simpa using ht.symm)
    · exact .inr (by simpa using ht.symm)
    · simp at ht
  rcases h3 with rfl | rfl
  · exact (show Tryz.prog.wantsStandIn 9 = false by kernel_rfl)
  · exact (show Tryz.prog.wantsStandIn 3 = false by kernel_rfl)
theorem graphcoreRungs_holds : Rows.GraphcoreRungsCardSaid :=
  Claim7.holds_tied_plain_at .later [] _ _ _ _ graphcoreRungs_said (fun _ h => by cases h) (by kernel_rfl) (fun _ h => by cases h) graphcoreRungs_row_tie rfl ⟨rfl, rfl⟩ (by kernel_rfl) rfl graphcoreRungs_plain (by kernel_rfl)
end Go.Proofs.YthabhakehajjnaaGreatDoor
