/-
Equations of functions, printed by program.
-/
import Derived.Test.YtiboikgoaihccaaProg
import Derived.Test.YtiboikgoaihccaaR36
import Derived.Test.YtiboikgoaihccaaTt
import Derived.Test.YtiboikgoaihccaaS2
import Derived.KernelRfl
namespace Go.Proofs.Ytiboikgoaihccaa.R
set_option maxRecDepth 100000
set_option linter.unusedVariables false
noncomputable def f81.E (k : Nat) : Env := mkEnv tt [] [] [] [] k
noncomputable def f81.code : Go.Code := (Go.Func.body Try.f81).getD .skip
theorem f81.eq (k : Nat) (x0 : Int) : evFn (f81.E k) 9 81 Try.f81 [(.int .i64 (x0))] =
  some (.agg [(.int .i64 (Go.IntKind.i64.wrap (x0 * 256))), (.int .i64 (Go.IntKind.i64.wrap (Go.IntKind.i64.wrap (x0 + 1) * 256)))]) := by kernel_rfl
theorem f81.inl (k : Nat) : InlOk Try.prog (f81.E k) := inl_nil
theorem f81.sums (k : Nat) : SumsOk Try.prog (f81.E k) := sums_nil
noncomputable def f84.E (k : Nat) : Env := mkEnv tt [] [] [] [] k
noncomputable def f84.code : Go.Code := (Go.Func.body Try.f84).getD .skip
theorem f84.eq (k : Nat) (x0 : Int) : evFn (f84.E k) 9 84 Try.f84 [(.int .i64 (x0))] =
  some (.agg [(.int .i64 (Go.IntKind.i64.wrap (x0 * 256))), (.int .i64 (Go.IntKind.i64.wrap (Go.IntKind.i64.wrap (x0 * 256) + 256)))]) := by kernel_rfl
theorem f84.inl (k : Nat) : InlOk Try.prog (f84.E k) := inl_nil
theorem f84.sums (k : Nat) : SumsOk Try.prog (f84.E k) := sums_nil
end Go.Proofs.Ytiboikgoaihccaa.R
