/- What an image reads as. -/
import Derived.Test.YtbngednclmjfoaaK18
import Derived.Test.YtbngednclmjfoaaF8
namespace Go.Abs
open Go.Proofs
set_option autoImplicit false
set_option linter.unusedVariables false
section
variable {H : Type} {enc : TypeId × Value → H} {W : World} {c : Nat}
theorem rU8 : Reads enc Try.prog W c 30 (fun n : Int => [.val (.int .u8 n)]) (fun _ => True) := (reads_int Try.underlying30).map id (fun _ _ => rfl) fun _ _ => trivial
theorem rU64 : Reads enc Try.prog W c 31 (fun n : Int => [.val (.int .u64 n)]) (fun _ => True) := (reads_int Try.underlying31).map id (fun _ _ => rfl) fun _ _ => trivial
theorem rInt : Reads enc Try.prog W c 3 irow (fun _ => True) := (reads_int Try.underlying3).map id (fun _ _ => rfl) fun _ _ => trivial
theorem rBool : Reads enc Try.prog W c 4 (fun b : Bool => [pb b]) (fun _ => True) := reads_bool Try.underlying4
theorem rStr : Reads enc Try.prog W c 9 (fun s : ByteArray => [ps s]) (fun _ => True) := (reads_string Try.underlying9).map id (fun _ _ => rfl) fun _ _ => trivial
theorem rVal : Reads enc Try.prog W c 33 DVal.row (fun _ => True) := by
  refine Reads.map (reads_struct Try.underlying33 (by kernel_rfl) (readsF_cons (n := 1) rfl (by kernel_rfl) (rU8) (readsF_cons (n := 1) rfl (by kernel_rfl) (rU64) (readsF_cons (n := 1) rfl (by kernel_rfl) (rStr) (readsF_nil))))) (fun p => ⟨p.1, p.2.1, p.2.2.1⟩) (fun a _ => rfl) (fun a h => trivial)
theorem rCell : Reads enc Try.prog W c 35 DCell.row (fun _ => True) := by
  refine Reads.map (reads_struct Try.underlying35 (by kernel_rfl) (readsF_cons (n := 1) rfl (by kernel_rfl) (rU8) (readsF_cons (n := 1) rfl (by kernel_rfl) (rBool) (readsF_cons (n := 1) rfl (by kernel_rfl) (rInt) (readsF_cons (n := 1) rfl (by kernel_rfl) (rInt) (readsF_cons (n := 1) rfl (by kernel_rfl) (rInt) (readsF_cons (n := 3) rfl (by kernel_rfl) (rVal) (readsF_cons (n := 1) rfl (by kernel_rfl) (rBool) (readsF_cons (n := 1) rfl (by kernel_rfl) (rInt) (readsF_cons (n := 1) rfl (by kernel_rfl) (rStr) (readsF_nil))))))))))) (fun p => ⟨p.1, p.2.1, p.2.2.1, p.2.2.2.1, p.2.2.2.2.1, p.2.2.2.2.2.1, p.2.2.2.2.2.2.1, p.2.2.2.2.2.2.2.1, p.2.2.2.2.2.2.2.2.1⟩) (fun a _ => rfl) (fun a h => trivial)
theorem rOp : Reads enc Try.prog W c 54 DOp.row (fun _ => True) := by
  refine Reads.map (reads_struct Try.underlying54 (by kernel_rfl) (readsF_cons (n := 1) rfl (by kernel_rfl) (rInt) (readsF_cons (n := 1) rfl (by kernel_rfl) (rInt) (readsF_cons (n := 1) rfl (by kernel_rfl) (rInt) (readsF_cons (n := 1) rfl (by kernel_rfl) (rInt) (readsF_cons (n := 1) rfl (by kernel_rfl) (rInt) (readsF_cons (n := 1) rfl (by kernel_rfl) (rInt) (readsF_cons (n := 1) rfl (by kernel_rfl) (rInt) (readsF_cons (n := 3) rfl (by kernel_rfl) (rVal) (readsF_nil)))))))))) (fun p => ⟨p.1, p.2.1, p.2.2.1, p.2.2.2.1, p.2.2.2.2.1, p.2.2.2.2.2.1, p.2.2.2.2.2.2.1, p.2.2.2.2.2.2.2.1⟩) (fun a _ => rfl) (fun a h => trivial)
theorem rLoop : Reads enc Try.prog W c 57 DLoop.row (fun _ => True) := by
  refine Reads.map (reads_struct Try.underlying57 (by kernel_rfl) (readsF_cons (n := 1) rfl (by kernel_rfl) (rInt) (readsF_cons (n := 1) rfl (by kernel_rfl) (rInt) (readsF_cons (n := 1) rfl (by kernel_rfl) (rInt) (readsF_nil))))) (fun p => ⟨p.1, p.2.1, p.2.2.1⟩) (fun a _ => rfl) (fun a h => trivial)
theorem by_35 : Try.prog.bytesOf 35 = 96 := by kernel_rfl
theorem by_54 : Try.prog.bytesOf 54 = 88 := by kernel_rfl
theorem by_57 : Try.prog.bytesOf 57 = 24 := by kernel_rfl
theorem by_46 : Try.prog.bytesOf 46 = 104 := by kernel_rfl
theorem by_39 : Try.prog.bytesOf 39 = 96 := by kernel_rfl
theorem by_3 : Try.prog.bytesOf 3 = 8 := by kernel_rfl
theorem rFlat : Reads enc Try.prog W c 46 (DFlat.row c) DFlat.Small := by
  refine Reads.map (reads_struct Try.underlying46 (by kernel_rfl) (readsF_cons (n := 1) rfl (by kernel_rfl) (rStr) (readsF_cons (n := 1) rfl (by kernel_rfl) (rInt) (readsF_cons (n := 1) rfl (by kernel_rfl) (rInt) (readsF_cons (n := 1) rfl (by kernel_rfl) (rInt) (readsF_cons (n := 1) rfl (by kernel_rfl) (rInt) (readsF_cons (n := 1) rfl (by kernel_rfl) (rInt) (readsF_cons (n := 1) rfl (by kernel_rfl) (reads_slice Try.underlying43 (by kernel_rfl : Try.prog.cellsOf 54 = 10) (by decide) rOp) (readsF_cons (n := 1) rfl (by kernel_rfl) (reads_slice Try.underlying44 (by kernel_rfl : Try.prog.cellsOf 57 = 3) (by decide) rLoop) (readsF_nil)))))))))) (fun p => ⟨p.1, p.2.1, p.2.2.1, p.2.2.2.1, p.2.2.2.2.1, p.2.2.2.2.2.1, p.2.2.2.2.2.2.1, p.2.2.2.2.2.2.2.1⟩) (fun a _ => rfl) (fun a h => ⟨by have h1 := by_54; have h2 := h.2.2.2.2.2.2.1.1; rw [h1] at h2; have := reachBytes_lt; simp only [] at h2 ⊢; omega, by have h1 := by_57; have h2 := h.2.2.2.2.2.2.2.1.1; rw [h1] at h2; have := reachBytes_lt; simp only [] at h2 ⊢; omega⟩)
theorem rJob : Reads enc Try.prog W c 39 (DJob.row c) DJob.Small := by
  refine Reads.map (reads_struct Try.underlying39 (by kernel_rfl) (readsF_cons (n := 1) rfl (by kernel_rfl) (rStr) (readsF_cons (n := 1) rfl (by kernel_rfl) (rInt) (readsF_cons (n := 1) rfl (by kernel_rfl) (rInt) (readsF_cons (n := 1) rfl (by kernel_rfl) (rInt) (readsF_cons (n := 1) rfl (by kernel_rfl) (reads_slice Try.underlying37 (by kernel_rfl : Try.prog.cellsOf 3 = 1) (by decide) rInt) (readsF_cons (n := 1) rfl (by kernel_rfl) (reads_slice Try.underlying37 (by kernel_rfl : Try.prog.cellsOf 3 = 1) (by decide) rInt) (readsF_cons (n := 1) rfl (by kernel_rfl) (rInt) (readsF_nil))))))))) (fun p => ⟨p.1, p.2.1, p.2.2.1, p.2.2.2.1, p.2.2.2.2.1, p.2.2.2.2.2.1, p.2.2.2.2.2.2.1⟩) (fun a _ => rfl) (fun a h => ⟨by have h1 := by_3; have h2 := h.2.2.2.2.1.1; rw [h1] at h2; have := reachBytes_lt; simp only [] at h2 ⊢; omega, by have h1 := by_3; have h2 := h.2.2.2.2.2.1.1; rw [h1] at h2; have := reachBytes_lt; simp only [] at h2 ⊢; omega⟩)
theorem rImage : Reads enc Try.prog W c 26 (DImage.row c) DImage.Small := by
  refine Reads.map (reads_struct Try.underlying26 (by kernel_rfl) (readsF_cons (n := 1) rfl (by kernel_rfl) (rStr) (readsF_cons (n := 1) rfl (by kernel_rfl) (reads_slice Try.underlying22 (by kernel_rfl : Try.prog.cellsOf 35 = 11) (by decide) rCell) (readsF_cons (n := 1) rfl (by kernel_rfl) (reads_slice Try.underlying23 (by kernel_rfl : Try.prog.cellsOf 46 = 8) (by decide) rFlat) (readsF_cons (n := 1) rfl (by kernel_rfl) (reads_slice Try.underlying24 (by kernel_rfl : Try.prog.cellsOf 39 = 7) (by decide) rJob) (readsF_nil)))))) (fun p => ⟨p.1, p.2.1, p.2.2.1, p.2.2.2.1⟩) (fun a _ => rfl) (fun a h => ⟨by have h1 := by_35; have h2 := h.2.1.1; rw [h1] at h2; have := reachBytes_lt; simp only [] at h2 ⊢; omega, by have h1 := by_46; have h2 := h.2.2.1.1; rw [h1] at h2; have := reachBytes_lt; simp only [] at h2 ⊢; omega, by have h1 := by_39; have h2 := h.2.2.2.1.1; rw [h1] at h2; have := reachBytes_lt; simp only [] at h2 ⊢; omega, h.2.2.1.2, h.2.2.2.1.2⟩)
end
end Go.Abs
