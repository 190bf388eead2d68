/- ImageBack is proved: whatever the image, the law answers true, and it reads as it did. The card: the listed variables are tied to the program's text. No condition. -/
import Derived.Test.YtllgmpejmagndaaGreatDoorA8
namespace Go.Proofs.YtllgmpejmagndaaGreatDoor
open Go.ChangeShapes Go.WideShapes Go.ChangeAt Go.RowKit Go.Abs
set_option maxRecDepth 100000
theorem imageBack_lifted (os : Os) (started : os.Started) (H : Type) (enc : TypeId × Value → H) :
    ReturnsInHanded {} Tryz.checked os 7 .any (fun w args => (Rows.imageBackSpec.pre enc Tryz.prog Tryz.f7 [] false w args ∧ laidMetH Tryz.prog laids w) ∧ sizedMet enc Tryz.prog Tryz.f7 (OpenSpec.ofChange Rows.imageBackSpec) false w args)
      (Rows.imageBackSpec.post enc Tryz.prog Tryz.f7 false true false false) := by
 refine returnsInHanded_of_change_and (C := Tryz.checked) (X := fun w _ => laidMetH Tryz.prog laids w) (fun _ _ _ hh h => h.of_heap hh) own_ started (by kernel_rfl) Tryz.func7
   (ChangeSpec.witness_shaped (enc := enc) (C := Tryz.checked) (os := os) (X := fun w _ => laidMetH Tryz.prog laids w) false (World.doorLaid Tryz.prog 2000 os) #[.agg #[.string ⟨#[]⟩, .slice none 0 0, .slice none 0 0, .slice none 0 0]] 8 rfl (World.shaped_of_RefB (by kernel_rfl) (by kernel_rfl)) (by kernel_rfl) (by kernel_rfl) (by kernel_rfl) (door_met os _)) ?_
 intro W base args ds gs before hval0 hW _ hwt hL _
 have hval : ∀ (j : Nat) t v, Tryz.f7.params[j]? = some t → args[j]? = some v → Value.okWide Tryz.prog W .any base t v := hval0
 have hW' : DataW.Whole enc Tryz.prog Tryz.f7.params.toList [] false W args.toList ds gs before := hW
 have hlt := hW'.lt
 obtain ⟨p, q, hA0, hV, rfl, hfz, hnd⟩ := hW'
 have hA : DataW.TrodAll enc Tryz.prog W 0 (fun _ => true) true Tryz.f7.params.toList args.toList ds p := hA0
 rw [Tryz.params7] at hA
 obtain ⟨v0, d0, rfl, rfl, h0⟩ := trodAll_one hA
 obtain ⟨rfl, rfl⟩ := trodVars_none hV
 have hwt' : (DataW.weightsEach Tryz.prog [26] [d0]).all (· ≤ reachBytes) = true := hwt
 have hw0 : ∀ n ∈ d0.weights Tryz.prog 26, n ≤ reachBytes := fun n hn => by
   simpa using List.all_eq_true.1 hwt' n (DataW.weights_mem_each (j := 0) (ts := [26]) (ds := [d0]) rfl rfl n hn)
 obtain ⟨m, rx, hin, hsm⟩ := opened (hval 0 26 v0 rfl rfl) h0 hw0
 refine (((lawBack (AS.start 1) 0 m hin hsm).text Tryz.func7 rfl).2 (Gh.start W 0) W [v0] (rel_start W 0 1 (amb hL)) ⟨rx, trivial⟩).mono fun e w' ⟨v, G', q, H', he, hle, hrel, hrep, hq, _⟩ => ?_
 subst hq
 cases hrep
 have hb := below_of_rel hle hrel
 refine ⟨_, he, [d0], [], _, [], p, [], hW, ?_, ?_, rfl, hb.frame _, fun h => by cases h⟩
 exact trodAll_mk1 (trod_true _ _ _ _ _)
 exact trodAll_mk1 (hb.trod laid_ readable26 (by decide) h0 fun z hz => hlt z (by simp [hz]))
theorem imageBack_row : Rows.ImageBackSaid :=
  OpenClaim.holds_of_wide 7 Tryz.f7 rfl rfl rfl rfl rfl rfl rfl ⟨rfl, rfl, rfl, rfl, rfl⟩ rfl rfl rfl rfl rfl (by kernel_rfl) Tryz.func7 (by kernel_rfl)
    (of_decide_eq_true (by kernel_rfl)) (by unfold Func.isWrapper; first | (rw [if_pos (by decide +kernel)]; kernel_rfl) | (rw [if_neg (by decide +kernel)]; exact ⟨rfl, rfl⟩))
    (fun os started H enc _ => imageBack_lifted os started H enc)
theorem imageBack_holds : Rows.ImageBackCardSaid :=
  Claim7.holds_tied_plain_at .later [] [.data, .data, .data, .sentinel, .sentinel] true (true, "4d57ffe0c4a49d05373ee41d41a6ebda07b81b881b394547c96a101948df6247") true
    imageBack_row (fun _ h => by cases h) (by kernel_rfl) (fun _ h => by cases h) imageBack_row_tie rfl ⟨rfl, rfl⟩ (by kernel_rfl) rfl
    (fun f fn hf hfn => by
      obtain rfl : f = 7 := Option.some.inj ((show Tryz.prog.funcNamed "relay/relaylaw20.ImageBack" = some 7 by kernel_rfl).symm.trans hf) |>.symm
      obtain rfl : fn = Tryz.f7 := (Option.some.inj (Tryz.func7.symm.trans hfn)).symm
      exact ⟨by kernel_rfl, fun j t ht => by
        rw [Tryz.params7] at ht
        have h3 : t = 26 := by
          rcases j with _ | j
          · exact by simpa using ht.symm
          · simp at ht
        rcases h3 with rfl
        exact (show Tryz.prog.wantsStandIn 26 = false by kernel_rfl)⟩)
    (by kernel_rfl)
end Go.Proofs.YtllgmpejmagndaaGreatDoor
