/-
A graph's copy.
-/
import Derived.Test.YtiboikgoaihccaaQ20
namespace Go.Proofs.Ytiboikgoaihccaa.R
set_option linter.unusedVariables false

noncomputable def S37 : Summ := summ [tG] Gr (fun (g : Gr) => chk (decide (g.2.length * 24 ≤ 140737488355328)) (some g)) (fun g => .agg [.int .i64 g.1, .own tLk g.2])
theorem ok37 : SumOk Try.prog 37 S37 :=
  sum_k hmix f37.E (fn := Try.f37) (code := f37.code) (by kernel_rfl) (by kernel_rfl) (by kernel_rfl) (fun _ => ttOk) f37.sums f37.inl fun (d : Gr) x hx => by
    obtain ⟨hb, hx⟩ := chk_some hx
    obtain rfl := Option.some.inj hx
    refine ⟨0, (f37.eq 0 d).trans ?_⟩
    rw [List.nil_append, chk_eq hb]
    simp only [both_self]

end Go.Proofs.Ytiboikgoaihccaa.R
