/-
Equations of functions, printed by program.
-/
import Derived.Test.YtiboikgoaihccaaProg
import Derived.Test.YtiboikgoaihccaaRC
import Derived.Test.YtiboikgoaihccaaTt
import Derived.Test.YtiboikgoaihccaaS15
import Derived.KernelRfl
namespace Go.Proofs.Ytiboikgoaihccaa.R
set_option maxRecDepth 100000
set_option linter.unusedVariables false
noncomputable def f42.E (k : Nat) : Env := mkEnv tt [(30, S30), (31, S31), (38, S38), (40, S40), (44, S44), (46, S46)] [(94, Try.f94)] [] [] k
noncomputable def f42.code : Go.Code := (Go.Func.body Try.f42).getD .skip
theorem f42.eq (k : Nat) : evFn (f42.E k) 9 42 Try.f42 [] =
  some (.bool ((leaving ((3 : Int), [((0 : Int), (1 : Int), (5 : Int)), ((1 : Int), (2 : Int), (4 : Int)), ((0 : Int), (2 : Int), (3 : Int))]) [(1 : Int), (0 : Int)]).snd == (800 : Int))) := by kernel_rfl
theorem f42.inl (k : Nat) : InlOk Try.prog (f42.E k) := (inl_cons (by kernel_rfl) (by kernel_rfl) inl_nil)
theorem f42.sums (k : Nat) : SumsOk Try.prog (f42.E k) := (sums_cons ok30 (sums_cons ok31 (sums_cons ok38 (sums_cons ok40 (sums_cons ok44 (sums_cons ok46 sums_nil))))))
end Go.Proofs.Ytiboikgoaihccaa.R
