/- IrUses is proved: whatever the instruction and the place, the law answers true, and both read as they did. No condition. -/
import Derived.Test.YtahkpjbhjkmedaaU10
import Derived.Test.YtahkpjbhjkmedaaRows
namespace Go.Proofs.Ytahkpjbhjkmedaa
open Go.ChangeShapes Go.WideShapes Go.ChangeAt Go.RowKit Go.Abs

theorem own_ : ownKnob Try.prog.godebug = none := by kernel_rfl
theorem laid_ : laidOutB Try.prog = true := by kernel_rfl
theorem readable_ : Try.prog.readableRec 27 = true := by kernel_rfl
theorem readable3_ : Try.prog.readableRec 3 = true := by kernel_rfl

theorem rep_agg {G : Gh} {l : List PV} {cs : Array Value} (h : RepRow G l cs.toList) : Rep G (.agg l) (.agg cs) := by
  obtain ⟨h1, h2, h3⟩ := h
  exact .agg (by simpa using h1) (fun j v hv => h3 j v (by simpa using hv)) (fun j p v hp hv => h2 j p v hp (by simpa using hv))

theorem opened {H : Type} {enc : TypeId × Value → H} {W : World} {base : Nat} {v : Value} {d : DataW H} {p : List MemPlace} (hok : Value.okWide Try.prog W .any base 27 v)
    (h : DataW.Trod enc Try.prog W 0 (fun _ => true) true 27 v d p) (hw : ∀ n ∈ d.weights Try.prog 27, n ≤ reachBytes) : ∃ x : DOp, Rep (Gh.start W 0) (.agg x.row) v := by
  unfold Value.okWide at hok
  rw [Try.underlying27] at hok
  obtain ⟨cs, rfl, -⟩ := hok
  obtain ⟨fuel, hf⟩ := h
  obtain ⟨x, h1, h2⟩ := rOp (c := 0) fuel _ _ hf hw
  exact ⟨x, rep_agg h1⟩

theorem int_of {W : World} {base : Nat} {v : Value} (h : Value.okWide Try.prog W .any base 3 v) : ∃ n, v = .int .i64 n := by
  unfold Value.okWide at h
  rw [Try.underlying3] at h
  have e := Try.underlying3
  unfold Cell.okWide at h
  split at h <;> simp_all
  unfold Cell.ok at h
  split at h <;> simp_all

theorem trod_true {H : Type} (enc : TypeId × Value → H) (w : World) (base : Nat) (sp : Nat → Bool) (hd : Bool) : DataW.Trod enc Try.prog w base sp hd 4 (.bool true) (.lit (.bool true)) [] := ⟨1, by simp [DataW.trod, Try.underlying4, Value.cells]⟩

set_option maxRecDepth 100000 in
theorem f_lifted (os : Os) (started : os.Started) (H : Type) (enc : TypeId × Value → H) :
    ReturnsInHanded {} Try.checked os 3 .any (Rows.irUsesSpec.pre6 enc Try.prog Try.f3 Rows.irUsesRow.domain false) (Rows.irUsesSpec.post enc Try.prog Try.f3 false true false false) := by
  refine returnsInHanded_of_change_sized (C := Try.checked) own_ started (by kernel_rfl) Try.func3
    (ChangeSpec.witness6 (enc := enc) (C := Try.checked) false ⟨#[], #[.agg #[.int .i64 0, .int .i64 0, .int .i64 0, .int .i64 0, .int .i64 0, .int .i64 0, .int .i64 0, .int .u8 0, .int .u64 0, .string ⟨#[]⟩], .int .i64 0], []⟩ 8 (by kernel_rfl) (by kernel_rfl) (by kernel_rfl) (by kernel_rfl)) ?_
  intro W base args ds gs before hval0 hW hcnd hwt _
  have hval : ∀ (j : Nat) t v, Try.f3.params[j]? = some t → args[j]? = some v → Value.okWide Try.prog W .any base t v := hval0
  have hW' : DataW.Whole enc Try.prog Try.f3.params.toList [] false W args.toList ds gs before := hW
  have hlt := hW'.lt
  obtain ⟨p, q, hA0, hV, rfl, hfz, hnd⟩ := hW'
  have hA : DataW.TrodAll enc Try.prog W 0 (fun _ => true) true Try.f3.params.toList args.toList ds p := hA0
  rw [Try.params3] at hA
  obtain ⟨v0, v1, d0, d1, p0, p1, rfl, rfl, rfl, h0, h1⟩ := trodAll_two hA
  obtain ⟨rfl, rfl⟩ := trodVars_none hV
  have hwt' : (DataW.weightsEach Try.prog [27, 3] [d0, d1]).all (· ≤ reachBytes) = true := hwt
  have hw : ∀ (j : Nat) (d : DataW H), [d0, d1][j]? = some d → [27, 3][j]? = some 27 → ∀ n ∈ d.weights Try.prog 27, n ≤ reachBytes := fun j d hd ht n hn => by
    simpa using List.all_eq_true.1 hwt' n (DataW.weights_mem_each ht hd n hn)
  obtain ⟨x, rx⟩ := opened (hval 0 27 v0 rfl rfl) h0 (hw 0 d0 rfl rfl)
  obtain ⟨n, rfl⟩ := int_of (hval 1 3 v1 rfl rfl)
  refine ((lawUses (AS.start 1) x n).2 (Gh.start W 0) W [v0, .int .i64 n] (rel_start W 0 1) ⟨rx, .val _, trivial⟩).mono fun e w' ⟨v, G', q, H', he, hle, hrel, hrep, hq, _⟩ => ?_
  subst hq
  cases hrep
  have hb := below_of_rel hle hrel
  refine ⟨_, he, [d0, d1], [], _, [], p0 ++ p1, [], hW, ?_, ?_, rfl, hb.frame _, fun h => by cases h⟩
  · exact trodAll_mk1 (trod_true _ _ _ _ _)
  · exact trodAll_mk2 (hb.trod laid_ readable_ (by decide) h0 fun z hz => hlt z (by simp [hz])) (hb.trod laid_ readable3_ (by decide) h1 fun z hz => hlt z (by simp [hz]))

theorem irUses_holds : Rows.IrUsesSaid :=
  OpenClaim.holds_of_wide 3 Try.f3 rfl rfl rfl rfl rfl rfl rfl ⟨rfl, rfl, rfl, rfl, rfl⟩ rfl rfl rfl rfl rfl (by kernel_rfl) Try.func3 (by kernel_rfl)
    (of_decide_eq_true (by kernel_rfl)) (by unfold Func.isWrapper; first | (rw [if_pos (by decide +kernel)]; kernel_rfl) | (rw [if_neg (by decide +kernel)]; exact ⟨rfl, rfl⟩))
    (fun os started H enc _ => f_lifted os started H enc)

end Go.Proofs.Ytahkpjbhjkmedaa
