/-
Equations of functions, printed by program.
-/
import Derived.Test.YtiboikgoaihccaaProg
import Derived.Test.YtiboikgoaihccaaRC
import Derived.Test.YtiboikgoaihccaaTt
import Derived.Test.YtiboikgoaihccaaS14
import Derived.KernelRfl
namespace Go.Proofs.Ytiboikgoaihccaa.R
set_option maxRecDepth 100000
set_option linter.unusedVariables false
noncomputable def f46.E (k : Nat) : Env := mkEnv tt [(40, S40), (44, S44), (95, S95)] [] [] [] k
noncomputable def f46.code : Go.Code := (Go.Func.body Try.f46).getD .skip
theorem f46.eq (k : Nat) (x0 : Int × List (Int × Int × Int)) (x1 : List Int) (x2 : Int) (x3 : Int) (x4 : Int) (x5 : List Int) : evFn (f46.E k) 9 46 Try.f46 [(.agg [(.int .i64 (x0.fst)), (.ro (.pair (.int .i64) (.pair (.int .i64) (.int .i64))) (x0.snd))]), (.ro (.int .i64) (x1)), (.int .i64 (x2)), (.int .i64 (x3)), (.int .i64 (x4)), (.ro (.int .i64) (x5))] =
  bif !capsMay x0 x1 then (some (.tup [(.bool (false)), (.int .i64 ((800 : Int)))])) else ((chk (decide (x5.length < (4611686018427387904 : Nat))) (some (worth x0 x1 x5))).bind (fun y0 => bif y0.snd == (0 : Int) then (bif decide (y0.fst < x4) then ((chk (decide (x5.length < (4611686018427387904 : Nat))) (some (cutMay x0 x2 x3 x5))).bind (fun y1 => some (.tup [(.bool (y1)), (.int .i64 ((0 : Int)))]))) else (some (.tup [(.bool (false)), (.int .i64 ((0 : Int)))]))) else (some (.tup [(.bool (false)), (.int .i64 ((0 : Int)))])))) := by kernel_rfl
theorem f46.inl (k : Nat) : InlOk Try.prog (f46.E k) := inl_nil
theorem f46.sums (k : Nat) : SumsOk Try.prog (f46.E k) := (sums_cons ok40 (sums_cons ok44 (sums_cons ok95 sums_nil)))
noncomputable def f47.E (k : Nat) : Env := mkEnv tt [(41, S41), (45, S45), (49, S49)] [] [] [] k
noncomputable def f47.code : Go.Code := (Go.Func.body Try.f47).getD .skip
theorem f47.eq (k : Nat) (x0 : Int × List (Int × Int × Int)) (x1 : List Int) (x2 : Int) (x3 : Int) (x4 : Int) (x5 : List Int) : evFn (f47.E k) 9 47 Try.f47 [(.agg [(.int .i64 (x0.fst)), (.ro (.pair (.int .i64) (.pair (.int .i64) (.int .i64))) (x0.snd))]), (.ro (.int .i64) (x1)), (.int .i64 (x2)), (.int .i64 (x3)), (.int .i64 (x4)), (.ro (.int .i64) (x5))] =
  bif !capsMay x0 x1 then (some (.tup [(.bool (false)), (.int .i64 ((800 : Int)))])) else ((chk (decide (x5.length < (4611686018427387904 : Nat))) (some (cutMay x0 x2 x3 x5))).bind (fun y0 => bif !y0 then (some (.tup [(.bool (false)), (.int .i64 ((0 : Int)))])) else ((chk (decide (x5.length < (4611686018427387904 : Nat))) (some (worth x0 x1 x5))).bind (fun y1 => some (.tup [(.bool (decide (y1.fst < x4))), (.int .i64 ((0 : Int)))]))))) := by kernel_rfl
theorem f47.inl (k : Nat) : InlOk Try.prog (f47.E k) := inl_nil
theorem f47.sums (k : Nat) : SumsOk Try.prog (f47.E k) := (sums_cons ok41 (sums_cons ok45 (sums_cons ok49 sums_nil)))
end Go.Proofs.Ytiboikgoaihccaa.R
