/- What an instruction reads as. -/
import Derived.Test.YtahkpjbhjkmedaaK18
import Derived.Test.YtahkpjbhjkmedaaU9
namespace Go.Abs
open Go.Proofs
set_option autoImplicit false
set_option linter.all false
section
variable {H : Type} {enc : TypeId × Value → H} {W : World} {c : Nat}
theorem rU8 : Reads enc Try.prog W c 22 (fun n : Int => [.val (.int .u8 n)]) (fun _ => True) := (reads_int Try.underlying22).map id (fun _ _ => rfl) fun _ _ => trivial
theorem rU64 : Reads enc Try.prog W c 23 (fun n : Int => [.val (.int .u64 n)]) (fun _ => True) := (reads_int Try.underlying23).map id (fun _ _ => rfl) fun _ _ => trivial
theorem rInt : Reads enc Try.prog W c 3 irow (fun _ => True) := (reads_int Try.underlying3).map id (fun _ _ => rfl) fun _ _ => trivial
theorem rStr : Reads enc Try.prog W c 9 (fun s : ByteArray => [ps s]) (fun _ => True) := (reads_string Try.underlying9).map id (fun _ _ => rfl) fun _ _ => trivial
theorem rVal : Reads enc Try.prog W c 25 DVal.row (fun _ => True) := by
  refine Reads.map (reads_struct Try.underlying25 (by kernel_rfl) (readsF_cons (n := 1) rfl (by kernel_rfl) (rU8) (readsF_cons (n := 1) rfl (by kernel_rfl) (rU64) (readsF_cons (n := 1) rfl (by kernel_rfl) (rStr) (readsF_nil))))) (fun p => ⟨p.1, p.2.1, p.2.2.1⟩) (fun a _ => rfl) (fun a h => trivial)
theorem rOp : Reads enc Try.prog W c 27 DOp.row (fun _ => True) := by
  refine Reads.map (reads_struct Try.underlying27 (by kernel_rfl) (readsF_cons (n := 1) rfl (by kernel_rfl) (rInt) (readsF_cons (n := 1) rfl (by kernel_rfl) (rInt) (readsF_cons (n := 1) rfl (by kernel_rfl) (rInt) (readsF_cons (n := 1) rfl (by kernel_rfl) (rInt) (readsF_cons (n := 1) rfl (by kernel_rfl) (rInt) (readsF_cons (n := 1) rfl (by kernel_rfl) (rInt) (readsF_cons (n := 1) rfl (by kernel_rfl) (rInt) (readsF_cons (n := 3) rfl (by kernel_rfl) (rVal) (readsF_nil)))))))))) (fun p => ⟨p.1, p.2.1, p.2.2.1, p.2.2.2.1, p.2.2.2.2.1, p.2.2.2.2.2.1, p.2.2.2.2.2.2.1, p.2.2.2.2.2.2.2.1⟩) (fun a _ => rfl) (fun a h => trivial)
end
end Go.Abs
