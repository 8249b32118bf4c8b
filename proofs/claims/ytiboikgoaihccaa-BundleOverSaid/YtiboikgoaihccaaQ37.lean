/-
Equations of functions, printed by program.
-/
import Derived.Test.YtiboikgoaihccaaProg
import Derived.Test.YtiboikgoaihccaaRC
import Derived.Test.YtiboikgoaihccaaTt
import Derived.Test.YtiboikgoaihccaaS36
import Derived.KernelRfl
namespace Go.Proofs.Ytiboikgoaihccaa.R
set_option maxRecDepth 100000
set_option linter.unusedVariables false
noncomputable def f70.E (k : Nat) : Env := mkEnv tt [(30, S30), (31, S31), (67, S67), (69, S69), (72, S72), (73, S73)] [] [(70, 2, [.drop 63])] [] k
noncomputable def f70.code : Go.Code := (Go.Func.body Try.f70).getD .skip
theorem f70.eq (k : Nat) : evFn (f70.E k) 9 70 Try.f70 [] =
  both (both (some (.bool ((loadsOf ((3 : Int), [((0 : Int), (1 : Int), (5 : Int)), ((1 : Int), (2 : Int), (4 : Int)), ((0 : Int), (2 : Int), (3 : Int))]) [((1 : Int), [(3 : Int)])]).snd == (700 : Int)))) (some (.bool ((loadsOf ((3 : Int), [((0 : Int), (1 : Int), (5 : Int)), ((1 : Int), (2 : Int), (4 : Int)), ((0 : Int), (2 : Int), (3 : Int))]) [((1 : Int), [(3 : Int)])]).snd == (700 : Int))))) (both (both (some (.bool ((loadsOf ((3 : Int), [((0 : Int), (1 : Int), (5 : Int)), ((1 : Int), (2 : Int), (4 : Int)), ((0 : Int), (2 : Int), (3 : Int))]) [((1 : Int), [(3 : Int)])]).snd == (700 : Int)))) (both (some (.bool ((loadsOf ((3 : Int), [((0 : Int), (1 : Int), (5 : Int)), ((1 : Int), (2 : Int), (4 : Int)), ((0 : Int), (2 : Int), (3 : Int))]) [((1 : Int), [(3 : Int)])]).snd == (700 : Int)))) (some (.bool ((loadsOf ((3 : Int), [((0 : Int), (1 : Int), (5 : Int)), ((1 : Int), (2 : Int), (4 : Int)), ((0 : Int), (2 : Int), (3 : Int))]) [((1 : Int), [(3 : Int)])]).snd == (700 : Int)))))) (both (some (.bool ((loadsOf ((3 : Int), [((0 : Int), (1 : Int), (5 : Int)), ((1 : Int), (2 : Int), (4 : Int)), ((0 : Int), (2 : Int), (3 : Int))]) [((1 : Int), [(3 : Int)])]).snd == (700 : Int)))) (both (some (.bool ((loadsOf ((3 : Int), [((0 : Int), (1 : Int), (5 : Int)), ((1 : Int), (2 : Int), (4 : Int)), ((0 : Int), (2 : Int), (3 : Int))]) [((1 : Int), [(3 : Int)])]).snd == (700 : Int)))) (some (.bool ((loadsOf ((3 : Int), [((0 : Int), (1 : Int), (5 : Int)), ((1 : Int), (2 : Int), (4 : Int)), ((0 : Int), (2 : Int), (3 : Int))]) [((1 : Int), [(3 : Int)])]).snd == (700 : Int))))))) := by kernel_rfl
theorem f70.inl (k : Nat) : InlOk Try.prog (f70.E k) := inl_nil
theorem f70.sums (k : Nat) : SumsOk Try.prog (f70.E k) := (sums_cons ok30 (sums_cons ok31 (sums_cons ok67 (sums_cons ok69 (sums_cons ok72 (sums_cons ok73 sums_nil))))))
end Go.Proofs.Ytiboikgoaihccaa.R
