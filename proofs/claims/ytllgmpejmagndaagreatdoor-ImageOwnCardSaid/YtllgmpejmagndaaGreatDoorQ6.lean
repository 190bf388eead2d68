/- ImageOwn is proved: whatever the image, the law answers true, and it reads as it did. The card: the listed variables are tied to the program's text. No condition. -/
import Derived.Test.YtllgmpejmagndaaGreatDoorA7
namespace Go.Proofs.YtllgmpejmagndaaGreatDoor
open Go.ChangeShapes Go.WideShapes Go.ChangeAt Go.RowKit Go.Abs
set_option maxRecDepth 100000
theorem imageOwn_lifted (os : Os) (started : os.Started) (H : Type) (enc : TypeId × Value → H) :
  ReturnsInHanded {} Tryz.checked os 5 .any (fun w args => (Rows.imageOwnSpec.pre enc Tryz.prog Tryz.f5 [] false w args ∧ laidMetH Tryz.prog laids w) ∧ sizedMet enc Tryz.prog Tryz.f5 (OpenSpec.ofChange Rows.imageOwnSpec) false w args)
   (Rows.imageOwnSpec.post enc Tryz.prog Tryz.f5 false true false false) := by
 refine returnsInHanded_of_change_and (C := Tryz.checked) (X := fun w _ => laidMetH Tryz.prog laids w) (fun _ _ _ hh h => h.of_heap hh) own_ started (by kernel_rfl) Tryz.func5
  (ChangeSpec.witness_shaped (enc := enc) (C := Tryz.checked) (os := os) (X := fun w _ => laidMetH Tryz.prog laids w) false (World.doorLaid Tryz.prog 2000 os) #[.agg #[.string ⟨#[]⟩, .slice none 0 0, .slice none 0 0, .slice none 0 0]] 8 rfl (World.shaped_of_RefB (by kernel_rfl) (by kernel_rfl)) (by kernel_rfl) (by kernel_rfl) (by kernel_rfl) (door_met os _)) ?_
 intro W base args ds gs before hval0 hW _ hwt hL _
 have hval : ∀ (j : Nat) t v, Tryz.f5.params[j]? = some t → args[j]? = some v → Value.okWide Tryz.prog W .any base t v := hval0
 have hW' : DataW.Whole enc Tryz.prog Tryz.f5.params.toList [] false W args.toList ds gs before := hW
 have hlt := hW'.lt
 obtain ⟨p, q, hA0, hV, rfl, hfz, hnd⟩ := hW'
 have hA : DataW.TrodAll enc Tryz.prog W 0 (fun _ => true) true Tryz.f5.params.toList args.toList ds p := hA0
 rw [Tryz.params5] at hA
 obtain ⟨v0, d0, rfl, rfl, h0⟩ := trodAll_one hA
 obtain ⟨rfl, rfl⟩ := trodVars_none hV
 have hwt' : (DataW.weightsEach Tryz.prog [26] [d0]).all (· ≤ reachBytes) = true := hwt
 have hw0 : ∀ n ∈ d0.weights Tryz.prog 26, n ≤ reachBytes := fun n hn => by
  simpa using List.all_eq_true.1 hwt' n (DataW.weights_mem_each (j := 0) (ts := [26]) (ds := [d0]) rfl rfl n hn)
 obtain ⟨m, rx, hin, hsm⟩ := opened (hval 0 26 v0 rfl rfl) h0 hw0
 refine (((lawOwn (AS.start 1) 0 m hin hsm).text Tryz.func5 rfl).2 (Gh.start W 0) W [v0] (rel_start W 0 1 (amb hL)) ⟨rx, trivial⟩).mono fun e w' ⟨v, G', q, H', he, hle, hrel, hrep, hq, _⟩ => ?_
 subst hq
 cases hrep
 have hb := below_of_rel hle hrel
 refine ⟨_, he, [d0], [], _, [], p, [], hW, ?_, ?_, rfl, hb.frame _, fun h => by cases h⟩
 exact trodAll_mk1 (trod_true _ _ _ _ _)
 exact trodAll_mk1 (hb.trod laid_ readable26 (by decide) h0 fun z hz => hlt z (by simp [hz]))
theorem imageOwn_row : Rows.ImageOwnSaid :=
 OpenClaim.holds_of_wide 5 Tryz.f5 rfl rfl rfl rfl rfl rfl rfl ⟨rfl, rfl, rfl, rfl, rfl⟩ rfl rfl rfl rfl rfl (by kernel_rfl) Tryz.func5 (by kernel_rfl)
  (of_decide_eq_true (by kernel_rfl)) (by unfold Func.isWrapper; first | (rw [if_pos (by decide +kernel)]; kernel_rfl) | (rw [if_neg (by decide +kernel)]; exact ⟨rfl, rfl⟩))
  (fun os started H enc _ => imageOwn_lifted os started H enc)
theorem imageOwn_holds : Rows.ImageOwnCardSaid :=
 Claim7.holds_tied_plain_at .later [] [.data, .data, .data, .sentinel, .sentinel] true (true, "4d57ffe0c4a49d05373ee41d41a6ebda07b81b881b394547c96a101948df6247") true
  imageOwn_row (fun _ h => by cases h) (by kernel_rfl) (fun _ h => by cases h) imageOwn_row_tie rfl ⟨rfl, rfl⟩ (by kernel_rfl) rfl
  (fun f fn hf hfn => by
   obtain rfl : f = 5 := Option.some.inj ((show Tryz.prog.funcNamed "relay/relaylaw20.ImageOwn" = some 5 by kernel_rfl).symm.trans hf) |>.symm
   obtain rfl : fn = Tryz.f5 := (Option.some.inj (Tryz.func5.symm.trans hfn)).symm
   exact ⟨by kernel_rfl, fun j t ht => by
    rw [Tryz.params5] at ht
    have h3 : t = 26 := by
     rcases j with _ | j
     ·exact by simpa using ht.symm
     ·simp at ht
    rcases h3 with rfl
    exact (show Tryz.prog.wantsStandIn 26 = false by kernel_rfl)⟩)
  (by kernel_rfl)
end Go.Proofs.YtllgmpejmagndaaGreatDoor
