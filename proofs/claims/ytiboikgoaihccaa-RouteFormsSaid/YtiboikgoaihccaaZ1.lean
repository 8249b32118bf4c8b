/-
A function of which nothing is told.
-/
import Derived.Test.YtiboikgoaihccaaC90
namespace Go.Proofs.Ytiboikgoaihccaa.R

noncomputable def S99v : Summ := { rt := Unit, call := fun _ => none, res := fun _ => .tup [] }
theorem ok99v : SumOk Try.prog 99 S99v :=
  ⟨⟨Try.f99, (Go.Func.body Try.f99).getD .skip, by kernel_rfl, by kernel_rfl, by kernel_rfl⟩, (fun B w vs xs x hB hv hx => by cases hx), (fun m hm => by cases hm)⟩

end Go.Proofs.Ytiboikgoaihccaa.R
