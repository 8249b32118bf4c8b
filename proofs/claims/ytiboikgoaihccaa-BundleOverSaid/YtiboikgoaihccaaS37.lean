/-
What every program answers that is one: package bundle.
-/
import Derived.Test.YtiboikgoaihccaaQ37
import Derived.KernelRfl
namespace Go.Proofs.Ytiboikgoaihccaa.R

noncomputable def S70 : Summ := summ [] Bool (fun _ => some true) .bool
theorem ok70 : SumOk Try.prog 70 S70 :=
  sum_k hmix f70.E (fn := Try.f70) (code := f70.code) (by kernel_rfl) (by kernel_rfl) (by kernel_rfl) (fun _ => ttOk) f70.sums f70.inl fun d x hx => by
    obtain rfl := Option.some.inj hx
    refine ⟨0, (f70.eq 0).trans ?_⟩
    rw [show ((loadsOf ((3 : Int), [((0 : Int), (1 : Int), (5 : Int)), ((1 : Int), (2 : Int), (4 : Int)), ((0 : Int), (2 : Int), (3 : Int))]) [((1 : Int), [(3 : Int)])]).snd == (700 : Int)) = true by kernel_rfl]
    simp only [both_self]

end Go.Proofs.Ytiboikgoaihccaa.R
