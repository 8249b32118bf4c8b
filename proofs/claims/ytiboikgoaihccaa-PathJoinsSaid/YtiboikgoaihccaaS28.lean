/-
What every program answers that is one: package path.
-/
import Derived.Test.YtiboikgoaihccaaQ28
import Derived.KernelRfl
namespace Go.Proofs.Ytiboikgoaihccaa.R

noncomputable def S62 : Summ := summ [] Bool (fun _ => some true) .bool
theorem ok62 : SumOk Try.prog 62 S62 :=
  sum_k hmix f62.E (fn := Try.f62) (code := f62.code) (by kernel_rfl) (by kernel_rfl) (by kernel_rfl) (fun _ => ttOk) f62.sums f62.inl fun d x hx => by
    obtain rfl := Option.some.inj hx
    refine ⟨0, (f62.eq 0).trans ?_⟩
    rw [show pathB ((3 : Int), [((0 : Int), (1 : Int), (5 : Int)), ((1 : Int), (2 : Int), (4 : Int)), ((0 : Int), (2 : Int), (3 : Int))]) (0 : Int) (1 : Int) [(0 : Int), (1 : Int)] = false by kernel_rfl]
    rfl

end Go.Proofs.Ytiboikgoaihccaa.R
