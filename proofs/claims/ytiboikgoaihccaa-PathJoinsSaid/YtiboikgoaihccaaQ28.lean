/-
Equations of functions, printed by program.
-/
import Derived.Test.YtiboikgoaihccaaProg
import Derived.Test.YtiboikgoaihccaaRC
import Derived.Test.YtiboikgoaihccaaTt
import Derived.Test.YtiboikgoaihccaaS27
import Derived.KernelRfl
namespace Go.Proofs.Ytiboikgoaihccaa.R
set_option maxRecDepth 100000
set_option linter.unusedVariables false
noncomputable def f62.E (k : Nat) : Env := mkEnv tt [(30, S30), (31, S31), (58, S58), (60, S60), (63, S63), (110, S110)] [] [] [] k
noncomputable def f62.code : Go.Code := (Go.Func.body Try.f62).getD .skip
theorem f62.eq (k : Nat) : evFn (f62.E k) 9 62 Try.f62 [] =
  some (.bool (!pathB ((3 : Int), [((0 : Int), (1 : Int), (5 : Int)), ((1 : Int), (2 : Int), (4 : Int)), ((0 : Int), (2 : Int), (3 : Int))]) (0 : Int) (1 : Int) [(0 : Int), (1 : Int)])) := by kernel_rfl
theorem f62.inl (k : Nat) : InlOk Try.prog (f62.E k) := inl_nil
theorem f62.sums (k : Nat) : SumsOk Try.prog (f62.E k) := (sums_cons ok30 (sums_cons ok31 (sums_cons ok58 (sums_cons ok60 (sums_cons ok63 (sums_cons ok110 sums_nil))))))
end Go.Proofs.Ytiboikgoaihccaa.R
