/-
What every program answers that is one.
-/
import Derived.Test.YtiboikgoaihccaaQ5
namespace Go.Proofs.Ytiboikgoaihccaa.R

noncomputable def S33 : Summ := summ [] Bool (fun _ => some true) .bool
theorem ok33 : SumOk Try.prog 33 S33 :=
  sum_k hmix f33.E (fn := Try.f33) (code := f33.code) (by kernel_rfl) (by kernel_rfl) (by kernel_rfl) (fun _ => ttOk) f33.sums f33.inl fun d x hx => by
    obtain rfl := Option.some.inj hx
    exact ⟨0, f33.eq 0⟩

end Go.Proofs.Ytiboikgoaihccaa.R
