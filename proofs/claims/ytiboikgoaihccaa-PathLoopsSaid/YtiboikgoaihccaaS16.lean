/-
What every program answers that is one: package cut.
-/
import Derived.Test.YtiboikgoaihccaaQ16
namespace Go.Proofs.Ytiboikgoaihccaa.R

noncomputable def S42 : Summ := summ [] Bool (fun _ => some true) .bool
theorem ok42 : SumOk Try.prog 42 S42 :=
  sum_k hmix f42.E (fn := Try.f42) (code := f42.code) (by kernel_rfl) (by kernel_rfl) (by kernel_rfl) (fun _ => ttOk) f42.sums f42.inl fun d x hx => by
    obtain rfl := Option.some.inj hx
    exact ⟨0, f42.eq 0⟩

end Go.Proofs.Ytiboikgoaihccaa.R
