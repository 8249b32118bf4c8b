/-
Equations of functions, printed by program.
-/
import Derived.Test.YtiboikgoaihccaaProg
import Derived.Test.YtiboikgoaihccaaRC
import Derived.Test.YtiboikgoaihccaaTt
import Derived.Test.YtiboikgoaihccaaS12
import Derived.KernelRfl
namespace Go.Proofs.Ytiboikgoaihccaa.R
set_option maxRecDepth 100000
set_option linter.unusedVariables false
noncomputable def f38.E (k : Nat) : Env := mkEnv tt [(88, S88), (89, S89)] [] [(38, 5, [.kill (rg [(0, 0), (2, 5), (7, 13), (17, 37)]), .tidy])] [] k
noncomputable def f38.code : Go.Code := (Go.Func.body Try.f38).getD .skip
noncomputable def f38.l0 (k n : Nat) (p0 : List Int) (p1 : List (Int × Int × Int)) (p2 : Int) (p3 : Int) (p4 : List Int) : Option V :=
  atPath (f38.E k) n ⟨[.undef, (.ro (.int .i64) (p0)), .undef, .undef, .undef, .undef, (.slw (1572880 : Nat)), .undef, .undef, .undef, .undef, .undef, .undef, .undef, (.ro (.pair (.int .i64) (.pair (.int .i64) (.int .i64))) (p1)), (.int .i64 (p2)), (.int .i64 (p3)), .undef, .undef, .undef, .undef, .undef, .undef, .undef, .undef, .undef, .undef, .undef, .undef, .undef, .undef, .undef, .undef, .undef, .undef, .undef, .undef, .undef], [], [((1572880 : Nat), .row (.int .i64) (p4))]⟩ 9 0 38 [.c 1, .c 1, .c 1, .c 0, .c 1, .c 0] [] f38.code (finK tt Try.f38)
theorem f38.l0_eq (k n : Nat) (p0 : List Int) (p1 : List (Int × Int × Int)) (p2 : Int) (p3 : Int) (p4 : List Int) : f38.l0 k (n + 1) p0 p1 p2 p3 p4 =
  bif decide (p3 < p2) then (chk (decide ((0 : Int) ≤ p3 ∧ p3 < (↑p1.length : Int))) ((chk (decide (p0.length < (4611686018427387904 : Nat))) (some (amongB p0 (rd ((Ty.int Go.IntKind.i64).pair ((Ty.int Go.IntKind.i64).pair (Ty.int Go.IntKind.i64))) p1 p3).fst))).bind (fun y0 => bif y0 then ((chk (decide (p0.length < (4611686018427387904 : Nat))) (some (amongB p0 (rd ((Ty.int Go.IntKind.i64).pair ((Ty.int Go.IntKind.i64).pair (Ty.int Go.IntKind.i64))) p1 p3).snd.fst))).bind (fun y1 => bif !y1 then (chk (decide ((p4 ++ [p3]).length * (8 : Nat) ≤ (140737488355328 : Nat))) (f38.l0 k n (p0) (p1) (p2) (Go.IntKind.i64.wrap (p3 + (1 : Int))) (p4 ++ [p3]))) else (f38.l0 k n (p0) (p1) (p2) (Go.IntKind.i64.wrap (p3 + (1 : Int))) (p4)))) else (f38.l0 k n (p0) (p1) (p2) (Go.IntKind.i64.wrap (p3 + (1 : Int))) (p4))))) else (some (.tup [(.own (.int .i64) (p4)), (.int .i64 ((0 : Int)))])) := by kernel_rfl
theorem f38.eq (k : Nat) (x0 : Int × List (Int × Int × Int)) (x1 : List Int) : evFn (f38.E k) 9 38 Try.f38 [(.agg [(.int .i64 (x0.fst)), (.ro (.pair (.int .i64) (.pair (.int .i64) (.int .i64))) (x0.snd))]), (.ro (.int .i64) (x1))] =
  (chk (decide (x1.length < (4611686018427387904 : Nat))) (some (risingB x0.fst none x1 && graphMay x0))).bind (fun y0 => bif !y0 then (some (.tup [(.own (.int .i64) ([])), (.int .i64 ((800 : Int)))])) else (f38.l0 k k (x1) (x0.snd) ((↑(List.length x0.snd) : Int)) ((0 : Int)) ([]))) := by kernel_rfl
theorem f38.inl (k : Nat) : InlOk Try.prog (f38.E k) := inl_nil
theorem f38.sums (k : Nat) : SumsOk Try.prog (f38.E k) := (sums_cons ok88 (sums_cons ok89 sums_nil))
noncomputable def f39.E (k : Nat) : Env := mkEnv tt [(48, S48), (90, S90), (91, S91)] [] [(39, 5, [.kill (rg [(0, 0), (3, 5), (8, 47)]), .tidy])] [] k
noncomputable def f39.code : Go.Code := (Go.Func.body Try.f39).getD .skip
noncomputable def f39.l0 (k n : Nat) (p0 : List Int) (p1 : Int) (p2 : Int) (p3 : List (Int × Int × Int)) (p4 : List Int) : Option V :=
  atPath (f39.E k) n ⟨[.undef, (.ro (.int .i64) (p0)), (.ptr (524304 : Nat) ((0 : Nat)) ((0 : Nat))), .undef, .undef, .undef, (.slw (1572880 : Nat)), (.int .i64 (p1)), .undef, .undef, .undef, .undef, .undef, .undef, .undef, .undef, .undef, .undef, .undef, .undef, .undef, .undef, .undef, .undef, .undef, .undef, .undef, .undef, .undef, .undef, .undef, .undef, .undef, .undef, .undef, .undef, .undef, .undef, .undef, .undef, .undef, .undef, .undef, .undef, .undef, .undef, .undef, .undef], [], [((524304 : Nat), .box [(.int .i64 (p2)), (.ro (.pair (.int .i64) (.pair (.int .i64) (.int .i64))) (p3))]), ((1572880 : Nat), .row (.int .i64) (p4))]⟩ 9 0 39 [.c 1, .c 1, .c 1, .c 0, .c 1, .c 0] [] f39.code (finK tt Try.f39)
theorem f39.l0_eq (k n : Nat) (p0 : List Int) (p1 : Int) (p2 : Int) (p3 : List (Int × Int × Int)) (p4 : List Int) : f39.l0 k (n + 1) p0 p1 p2 p3 p4 =
  bif decide (p1 < (↑p3.length : Int)) then (chk (decide ((0 : Int) ≤ p1 ∧ p1 < (↑p3.length : Int))) ((chk (decide (p0.length < (4611686018427387904 : Nat))) (some (amongB p0 (rd ((Ty.int Go.IntKind.i64).pair ((Ty.int Go.IntKind.i64).pair (Ty.int Go.IntKind.i64))) p3 p1).fst))).bind (fun y0 => bif y0 then (chk (decide ((0 : Int) ≤ p1 ∧ p1 < (↑p3.length : Int))) ((chk (decide (p0.length < (4611686018427387904 : Nat))) (some (amongB p0 (rd ((Ty.int Go.IntKind.i64).pair ((Ty.int Go.IntKind.i64).pair (Ty.int Go.IntKind.i64))) p3 p1).snd.fst))).bind (fun y1 => bif !y1 then (chk (decide ((p4 ++ [p1]).length * (8 : Nat) ≤ (140737488355328 : Nat))) (f39.l0 k n (p0) (Go.IntKind.i64.wrap (p1 + (1 : Int))) (p2) (p3) (p4 ++ [p1]))) else (f39.l0 k n (p0) (Go.IntKind.i64.wrap (p1 + (1 : Int))) (p2) (p3) (p4))))) else (f39.l0 k n (p0) (Go.IntKind.i64.wrap (p1 + (1 : Int))) (p2) (p3) (p4))))) else (some (.tup [(.own (.int .i64) (p4)), (.int .i64 ((0 : Int)))])) := by kernel_rfl
theorem f39.eq (k : Nat) (x0 : Int × List (Int × Int × Int)) (x1 : List Int) : evFn (f39.E k) 9 39 Try.f39 [(.agg [(.int .i64 (x0.fst)), (.ro (.pair (.int .i64) (.pair (.int .i64) (.int .i64))) (x0.snd))]), (.ro (.int .i64) (x1))] =
  bif !graphMay x0 then (some (.tup [(.own (.int .i64) ([])), (.int .i64 ((800 : Int)))])) else ((chk (decide (x1.length < (4611686018427387904 : Nat))) (some (risingB x0.fst none x1))).bind (fun y0 => bif !y0 then (some (.tup [(.own (.int .i64) ([])), (.int .i64 ((800 : Int)))])) else (f39.l0 k k (x1) ((0 : Int)) (x0.fst) (x0.snd) ([])))) := by kernel_rfl
theorem f39.inl (k : Nat) : InlOk Try.prog (f39.E k) := inl_nil
theorem f39.sums (k : Nat) : SumsOk Try.prog (f39.E k) := (sums_cons ok48 (sums_cons ok90 (sums_cons ok91 sums_nil)))
noncomputable def f40.E (k : Nat) : Env := mkEnv tt [(88, S88), (89, S89), (92, S92)] [] [] [] k
noncomputable def f40.code : Go.Code := (Go.Func.body Try.f40).getD .skip
theorem f40.eq (k : Nat) (x0 : Int × List (Int × Int × Int)) (x1 : Int) (x2 : Int) (x3 : List Int) : evFn (f40.E k) 9 40 Try.f40 [(.agg [(.int .i64 (x0.fst)), (.ro (.pair (.int .i64) (.pair (.int .i64) (.int .i64))) (x0.snd))]), (.int .i64 (x1)), (.int .i64 (x2)), (.ro (.int .i64) (x3))] =
  (chk (decide (x3.length < (4611686018427387904 : Nat))) (some (risingB x0.fst none x3 && graphMay x0))).bind (fun y0 => bif y0 then (bif hasV x0.fst x2 then ((chk (decide (x3.length < (4611686018427387904 : Nat))) (some (amongB x3 x1))).bind (fun y1 => bif y1 then ((chk (decide (x3.length < (4611686018427387904 : Nat))) (some (amongB x3 x2))).bind (fun y2 => some (.bool (!y2)))) else (some (.bool (false))))) else (some (.bool (false)))) else (some (.bool (false)))) := by kernel_rfl
theorem f40.inl (k : Nat) : InlOk Try.prog (f40.E k) := inl_nil
theorem f40.sums (k : Nat) : SumsOk Try.prog (f40.E k) := (sums_cons ok88 (sums_cons ok89 (sums_cons ok92 sums_nil)))
noncomputable def f41.E (k : Nat) : Env := mkEnv tt [(48, S48), (90, S90), (91, S91), (93, S93)] [] [] [] k
noncomputable def f41.code : Go.Code := (Go.Func.body Try.f41).getD .skip
theorem f41.eq (k : Nat) (x0 : Int × List (Int × Int × Int)) (x1 : Int) (x2 : Int) (x3 : List Int) : evFn (f41.E k) 9 41 Try.f41 [(.agg [(.int .i64 (x0.fst)), (.ro (.pair (.int .i64) (.pair (.int .i64) (.int .i64))) (x0.snd))]), (.int .i64 (x1)), (.int .i64 (x2)), (.ro (.int .i64) (x3))] =
  bif graphMay x0 then (bif hasV x0.fst x1 then (bif hasV x0.fst x2 then ((chk (decide (x3.length < (4611686018427387904 : Nat))) (some (risingB x0.fst none x3))).bind (fun y0 => bif y0 then ((chk (decide (x3.length < (4611686018427387904 : Nat))) (some (amongB x3 x1))).bind (fun y1 => bif y1 then ((chk (decide (x3.length < (4611686018427387904 : Nat))) (some (amongB x3 x2))).bind (fun y2 => some (.bool (!y2)))) else (some (.bool (false))))) else (some (.bool (false))))) else (some (.bool (false)))) else (some (.bool (false)))) else (some (.bool (false))) := by kernel_rfl
theorem f41.inl (k : Nat) : InlOk Try.prog (f41.E k) := inl_nil
theorem f41.sums (k : Nat) : SumsOk Try.prog (f41.E k) := (sums_cons ok48 (sums_cons ok90 (sums_cons ok91 (sums_cons ok93 sums_nil))))
end Go.Proofs.Ytiboikgoaihccaa.R
