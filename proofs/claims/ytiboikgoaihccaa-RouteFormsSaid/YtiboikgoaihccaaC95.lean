/-
Functions of pure data, known by their evaluation: for runs on closed data. Printed by program.
-/
import Derived.Test.YtiboikgoaihccaaProg
import Derived.Test.YtiboikgoaihccaaRC
import Derived.Test.YtiboikgoaihccaaTt
import Derived.Test.YtiboikgoaihccaaG3
import Derived.Test.YtiboikgoaihccaaC94
import Derived.KernelRfl
namespace Go.Proofs.Ytiboikgoaihccaa.R
set_option maxRecDepth 100000
set_option linter.unusedVariables false
/-! 52: tollbarlaw16.awake -/
noncomputable def f52.E (k : Nat) : Env := mkEnv tt [(30, S30), (31, S31), (51, S51), (55, S55), (57, S57)] [] [] [] k
noncomputable def f52.code : Go.Code := (Go.Func.body Try.f52).getD .skip
theorem f52.inl (k : Nat) : InlOk Try.prog (f52.E k) := inl_nil
theorem f52.sums (k : Nat) : SumsOk Try.prog (f52.E k) := (sums_cons ok30 (sums_cons ok31 (sums_cons ok51 (sums_cons ok55 (sums_cons ok57 sums_nil)))))
theorem f52.at0 : evFn (f52.E 40) 9 52 Try.f52 [] = some (.bool true) := by kernel_rfl

noncomputable def S52 : Summ := summ [] Bool (fun _ => some true) .bool
theorem ok52 : SumOk Try.prog 52 S52 :=
  sum_k hmix f52.E (fn := Try.f52) (code := f52.code) (by kernel_rfl) (by kernel_rfl) (by kernel_rfl) (fun _ => ttOk) f52.sums f52.inl fun d x hx => by
    obtain rfl := Option.some.inj hx
    exact ⟨40, f52.at0⟩

end Go.Proofs.Ytiboikgoaihccaa.R
