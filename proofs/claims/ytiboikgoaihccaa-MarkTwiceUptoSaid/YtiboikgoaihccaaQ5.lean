/-
Equations of functions, printed by program.
-/
import Derived.Test.YtiboikgoaihccaaProg
import Derived.Test.YtiboikgoaihccaaR36
import Derived.Test.YtiboikgoaihccaaTt
import Derived.Test.YtiboikgoaihccaaS4
import Derived.KernelRfl
namespace Go.Proofs.Ytiboikgoaihccaa.R
set_option maxRecDepth 100000
set_option linter.unusedVariables false
noncomputable def f33.E (k : Nat) : Env := mkEnv tt [(26, S26), (28, S28), (30, S30), (31, S31), (86, S86)] [] [] [] k
noncomputable def f33.code : Go.Code := (Go.Func.body Try.f33).getD .skip
theorem f33.eq (k : Nat) : evFn (f33.E k) 9 33 Try.f33 [] =
  some (.bool ((markOf [] (1, 2)).snd == 2100)) := by kernel_rfl
theorem f33.inl (k : Nat) : InlOk Try.prog (f33.E k) := inl_nil
theorem f33.sums (k : Nat) : SumsOk Try.prog (f33.E k) := (sums_cons ok26 (sums_cons ok28 (sums_cons ok30 (sums_cons ok31 (sums_cons ok86 sums_nil)))))
end Go.Proofs.Ytiboikgoaihccaa.R
