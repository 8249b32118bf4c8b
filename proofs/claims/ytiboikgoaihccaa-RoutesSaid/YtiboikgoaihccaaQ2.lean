/-
Equations of functions, printed by program.
-/
import Derived.Test.YtiboikgoaihccaaProg
import Derived.Test.YtiboikgoaihccaaRC
import Derived.Test.YtiboikgoaihccaaTt
import Derived.Test.YtiboikgoaihccaaS1
import Derived.KernelRfl
namespace Go.Proofs.Ytiboikgoaihccaa.R
set_option maxRecDepth 100000
set_option linter.unusedVariables false
noncomputable def f80.E (k : Nat) : Env := mkEnv tt [(77, S77)] [(121, Try.f121)] [] [] k
noncomputable def f80.code : Go.Code := (Go.Func.body Try.f80).getD .skip
theorem f80.eq (k : Nat) (x0 : Int × Int) (x1 : Int × Int) : evFn (f80.E k) 9 80 Try.f80 [(.agg [(.int .i64 (x0.fst)), (.int .i64 (x0.snd))]), (.agg [(.int .i64 (x1.fst)), (.int .i64 (x1.snd))])] =
  bif !spanMay x0 then (some (.bool (false))) else (bif !spanMay x1 then (some (.bool (false))) else (bif !spanMay (List.foldl max2I x0.fst [x1.fst], List.foldl min2I x0.snd [x1.snd]) then (some (.bool (false))) else (some (.bool (true))))) := by kernel_rfl
theorem f80.inl (k : Nat) : InlOk Try.prog (f80.E k) := (inl_cons (by kernel_rfl) (by kernel_rfl) inl_nil)
theorem f80.sums (k : Nat) : SumsOk Try.prog (f80.E k) := (sums_cons ok77 sums_nil)
noncomputable def f36.E (k : Nat) : Env := mkEnv tt [(83, S83)] [(87, Try.f87)] [] [] k
noncomputable def f36.code : Go.Code := (Go.Func.body Try.f36).getD .skip
theorem f36.eq (k : Nat) (x0 : Int × Int) (x1 : Int × Int) : evFn (f36.E k) 9 36 Try.f36 [(.agg [(.int .i64 (x0.fst)), (.int .i64 (x0.snd))]), (.agg [(.int .i64 (x1.fst)), (.int .i64 (x1.snd))])] =
  bif !spanMay x0 then (some (.bool (false))) else (bif !spanMay x1 then (some (.bool (false))) else (bif decide (x0.fst ≥ x1.snd) then (some (.bool (false))) else (bif decide (x1.fst ≥ x0.snd) then (some (.bool (false))) else (bif decide (x1.fst > x0.fst) then (bif decide (x1.snd < x0.snd) then (some (.bool (true))) else (some (.bool (true)))) else (bif decide (x1.snd < x0.snd) then (some (.bool (true))) else (some (.bool (true)))))))) := by kernel_rfl
theorem f36.inl (k : Nat) : InlOk Try.prog (f36.E k) := (inl_cons (by kernel_rfl) (by kernel_rfl) inl_nil)
theorem f36.sums (k : Nat) : SumsOk Try.prog (f36.E k) := (sums_cons ok83 sums_nil)
noncomputable def f30.E (k : Nat) : Env := mkEnv tt [(85, S85)] [] [] [] k
noncomputable def f30.code : Go.Code := (Go.Func.body Try.f30).getD .skip
theorem f30.eq (k : Nat) (x0 : List Int) (x1 : List Int) : evFn (f30.E k) 9 30 Try.f30 [(.ro (.int .i64) (x0)), (.ro (.int .i64) (x1))] =
  (chk (decide (x0.length < 4611686018427387904)) (some (sameB x0 x1))).bind (fun y0 => some (.bool (y0))) := by kernel_rfl
theorem f30.inl (k : Nat) : InlOk Try.prog (f30.E k) := inl_nil
theorem f30.sums (k : Nat) : SumsOk Try.prog (f30.E k) := (sums_cons ok85 sums_nil)
end Go.Proofs.Ytiboikgoaihccaa.R
