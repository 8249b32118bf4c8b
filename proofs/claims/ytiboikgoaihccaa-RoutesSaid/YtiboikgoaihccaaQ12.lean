/-
Equations of functions, printed by program.
-/
import Derived.Test.YtiboikgoaihccaaProg
import Derived.Test.YtiboikgoaihccaaRC
import Derived.Test.YtiboikgoaihccaaTt
import Derived.Test.YtiboikgoaihccaaS11
import Derived.KernelRfl
namespace Go.Proofs.Ytiboikgoaihccaa.R
set_option maxRecDepth 100000
set_option linter.unusedVariables false
noncomputable def f88.E (k : Nat) : Env := mkEnv tt [(92, S92), (104, S104)] [] [(88, 2, [.kill (rg [(0, 0), (3, 6), (10, 33)]), .tidy])] [] k
noncomputable def f88.code : Go.Code := (Go.Func.body Try.f88).getD .skip
noncomputable def f88.l0 (k n : Nat) (p0 : List Int) (p1 : Int) (p2 : Int) (p3 : Int) (p4 : List (Int × Int × Int)) : Option V :=
  atPath (f88.E k) n ⟨[.undef, (.ro (.int .i64) (p0)), (.ptr (524304 : Nat) ((0 : Nat)) ((0 : Nat))), .undef, .undef, .undef, .undef, (.ro (.int .i64) (p0)), (.int .i64 (p1)), (.int .i64 (p2)), .undef, .undef, .undef, .undef, .undef, .undef, .undef, .undef, .undef, .undef, .undef, .undef, .undef, .undef, .undef, .undef, .undef, .undef, .undef, .undef, .undef, .undef, .undef, .undef], [], [((524304 : Nat), .box [(.int .i64 (p3)), (.ro (.pair (.int .i64) (.pair (.int .i64) (.int .i64))) (p4))])]⟩ 9 0 88 [.c 1, .c 0, .c 1, .c 0] [] f88.code (finK tt Try.f88)
theorem f88.l0_eq (k n : Nat) (p0 : List Int) (p1 : Int) (p2 : Int) (p3 : Int) (p4 : List (Int × Int × Int)) : f88.l0 k (n + 1) p0 p1 p2 p3 p4 =
  bif decide (p2 < p1) then (chk (decide ((0 : Int) ≤ p2 ∧ p2 < (↑p0.length : Int))) (bif !hasV p3 (rd (Ty.int Go.IntKind.i64) p0 p2) then (some (.bool (false))) else (bif decide (p2 > (0 : Int)) then (chk (decide ((0 : Int) ≤ Go.IntKind.i64.wrap (p2 - (1 : Int)) ∧ Go.IntKind.i64.wrap (p2 - (1 : Int)) < (↑p0.length : Int))) (bif decide (rd (Ty.int Go.IntKind.i64) p0 p2 ≤ rd (Ty.int Go.IntKind.i64) p0 (Go.IntKind.i64.wrap (p2 - (1 : Int)))) then (some (.bool (false))) else (f88.l0 k n (p0) (p1) (Go.IntKind.i64.wrap (p2 + (1 : Int))) (p3) (p4)))) else (f88.l0 k n (p0) (p1) (Go.IntKind.i64.wrap (p2 + (1 : Int))) (p3) (p4))))) else (some (.bool (graphMay (p3, p4)))) := by kernel_rfl
theorem f88.eq (k : Nat) (x0 : Int × List (Int × Int × Int)) (x1 : List Int) : evFn (f88.E k) 9 88 Try.f88 [(.agg [(.int .i64 (x0.fst)), (.ro (.pair (.int .i64) (.pair (.int .i64) (.int .i64))) (x0.snd))]), (.ro (.int .i64) (x1))] =
  f88.l0 k k (x1) ((↑x1.length : Int)) ((0 : Int)) (x0.fst) (x0.snd) := by kernel_rfl
theorem f88.inl (k : Nat) : InlOk Try.prog (f88.E k) := inl_nil
theorem f88.sums (k : Nat) : SumsOk Try.prog (f88.E k) := (sums_cons ok92 (sums_cons ok104 sums_nil))
noncomputable def f95.E (k : Nat) : Env := mkEnv tt [(104, S104)] [] [(95, 4, [.kill (rg [(0, 1), (3, 17), (21, 37)]), .tidy])] [] k
noncomputable def f95.code : Go.Code := (Go.Func.body Try.f95).getD .skip
noncomputable def f95.l0 (k n : Nat) (p0 : List Int) (p1 : Int) (p2 : Int) (p3 : Int) (p4 : List (Int × Int × Int)) : Option V :=
  atPath (f95.E k) n ⟨[.undef, .undef, (.ptr (524304 : Nat) ((0 : Nat)) ((0 : Nat))), .undef, .undef, .undef, .undef, .undef, .undef, .undef, .undef, .undef, .undef, .undef, .undef, .undef, .undef, .undef, (.ro (.int .i64) (p0)), (.int .i64 (p1)), (.int .i64 (p2)), .undef, .undef, .undef, .undef, .undef, .undef, .undef, .undef, .undef, .undef, .undef, .undef, .undef, .undef, .undef, .undef, .undef], [], [((524304 : Nat), .box [(.int .i64 (p3)), (.ro (.pair (.int .i64) (.pair (.int .i64) (.int .i64))) (p4))])]⟩ 9 0 95 [.c 1, .c 1, .c 0, .c 1, .c 0] [] f95.code (finK tt Try.f95)
theorem f95.l0_eq (k n : Nat) (p0 : List Int) (p1 : Int) (p2 : Int) (p3 : Int) (p4 : List (Int × Int × Int)) : f95.l0 k (n + 1) p0 p1 p2 p3 p4 =
  bif decide (p2 < p1) then (chk (decide ((0 : Int) ≤ p2 ∧ p2 < (↑p0.length : Int))) (bif decide (rd (Ty.int Go.IntKind.i64) p0 p2 < (0 : Int)) then (some (.bool (false))) else (chk (decide ((0 : Int) ≤ p2 ∧ p2 < (↑p4.length : Int))) (bif decide (rd (Ty.int Go.IntKind.i64) p0 p2 > (rd ((Ty.int Go.IntKind.i64).pair ((Ty.int Go.IntKind.i64).pair (Ty.int Go.IntKind.i64))) p4 p2).snd.snd) then (some (.bool (false))) else (f95.l0 k n (p0) (p1) (Go.IntKind.i64.wrap (p2 + (1 : Int))) (p3) (p4)))))) else (some (.bool (true))) := by kernel_rfl
theorem f95.eq (k : Nat) (x0 : Int × List (Int × Int × Int)) (x1 : List Int) : evFn (f95.E k) 9 95 Try.f95 [(.agg [(.int .i64 (x0.fst)), (.ro (.pair (.int .i64) (.pair (.int .i64) (.int .i64))) (x0.snd))]), (.ro (.int .i64) (x1))] =
  bif !graphMay x0 then (some (.bool (false))) else (bif (↑x1.length : Int) != (↑(List.length x0.snd) : Int) then (some (.bool (false))) else (f95.l0 k k (x1) ((↑x1.length : Int)) ((0 : Int)) (x0.fst) (x0.snd))) := by kernel_rfl
theorem f95.inl (k : Nat) : InlOk Try.prog (f95.E k) := inl_nil
theorem f95.sums (k : Nat) : SumsOk Try.prog (f95.E k) := (sums_cons ok104 sums_nil)
noncomputable def f49.E (k : Nat) : Env := mkEnv tt [(90, S90)] [] [(49, 4, [.kill (rg [(0, 0), (3, 4), (6, 40)]), .tidy])] [] k
noncomputable def f49.code : Go.Code := (Go.Func.body Try.f49).getD .skip
noncomputable def f49.l0 (k n : Nat) (p0 : List Int) (p1 : Int) (p2 : Int) (p3 : List (Int × Int × Int)) : Option V :=
  atPath (f49.E k) n ⟨[.undef, (.ro (.int .i64) (p0)), (.ptr (524304 : Nat) ((0 : Nat)) ((0 : Nat))), .undef, .undef, (.int .i64 (p1)), .undef, .undef, .undef, .undef, .undef, .undef, .undef, .undef, .undef, .undef, .undef, .undef, .undef, .undef, .undef, .undef, .undef, .undef, .undef, .undef, .undef, .undef, .undef, .undef, .undef, .undef, .undef, .undef, .undef, .undef, .undef, .undef, .undef, .undef, .undef], [], [((524304 : Nat), .box [(.int .i64 (p2)), (.ro (.pair (.int .i64) (.pair (.int .i64) (.int .i64))) (p3))])]⟩ 9 0 49 [.c 1, .c 1, .c 0, .c 1, .c 0] [] f49.code (finK tt Try.f49)
theorem f49.l0_eq (k n : Nat) (p0 : List Int) (p1 : Int) (p2 : Int) (p3 : List (Int × Int × Int)) : f49.l0 k (n + 1) p0 p1 p2 p3 =
  bif decide (p1 < (↑p0.length : Int)) then (chk (decide ((0 : Int) ≤ p1 ∧ p1 < (↑p0.length : Int))) (bif decide (rd (Ty.int Go.IntKind.i64) p0 p1 < (0 : Int)) then (some (.bool (false))) else (chk (decide ((0 : Int) ≤ p1 ∧ p1 < (↑p0.length : Int))) (chk (decide ((0 : Int) ≤ p1 ∧ p1 < (↑p3.length : Int))) (bif decide (rd (Ty.int Go.IntKind.i64) p0 p1 > (rd ((Ty.int Go.IntKind.i64).pair ((Ty.int Go.IntKind.i64).pair (Ty.int Go.IntKind.i64))) p3 p1).snd.snd) then (some (.bool (false))) else (f49.l0 k n (p0) (Go.IntKind.i64.wrap (p1 + (1 : Int))) (p2) (p3))))))) else (some (.bool (true))) := by kernel_rfl
theorem f49.eq (k : Nat) (x0 : Int × List (Int × Int × Int)) (x1 : List Int) : evFn (f49.E k) 9 49 Try.f49 [(.agg [(.int .i64 (x0.fst)), (.ro (.pair (.int .i64) (.pair (.int .i64) (.int .i64))) (x0.snd))]), (.ro (.int .i64) (x1))] =
  bif !graphMay x0 then (some (.bool (false))) else (bif (↑x1.length : Int) != (↑(List.length x0.snd) : Int) then (some (.bool (false))) else (f49.l0 k k (x1) ((0 : Int)) (x0.fst) (x0.snd))) := by kernel_rfl
theorem f49.inl (k : Nat) : InlOk Try.prog (f49.E k) := inl_nil
theorem f49.sums (k : Nat) : SumsOk Try.prog (f49.E k) := (sums_cons ok90 sums_nil)
noncomputable def f50.E (k : Nat) : Env := mkEnv tt [(90, S90), (93, S93)] [] [(50, 5, [.kill (rg [(0, 0), (3, 5), (8, 36)]), .tidy])] [] k
noncomputable def f50.code : Go.Code := (Go.Func.body Try.f50).getD .skip
noncomputable def f50.l0 (k n : Nat) (p0 : Int) (p1 : Int) (p2 : Int) (p3 : List (Int × Int × Int)) (p4 : List Int) : Option V :=
  atPath (f50.E k) n ⟨[.undef, (.int .i64 (p0)), (.ptr (524304 : Nat) ((0 : Nat)) ((0 : Nat))), .undef, .undef, .undef, (.slw (1572880 : Nat)), (.int .i64 (p1)), .undef, .undef, .undef, .undef, .undef, .undef, .undef, .undef, .undef, .undef, .undef, .undef, .undef, .undef, .undef, .undef, .undef, .undef, .undef, .undef, .undef, .undef, .undef, .undef, .undef, .undef, .undef, .undef, .undef], [], [((524304 : Nat), .box [(.int .i64 (p2)), (.ro (.pair (.int .i64) (.pair (.int .i64) (.int .i64))) (p3))]), ((1572880 : Nat), .row (.int .i64) (p4))]⟩ 9 0 50 [.c 1, .c 1, .c 1, .c 0, .c 1, .c 0] [] f50.code (finK tt Try.f50)
theorem f50.l0_eq (k n : Nat) (p0 : Int) (p1 : Int) (p2 : Int) (p3 : List (Int × Int × Int)) (p4 : List Int) : f50.l0 k (n + 1) p0 p1 p2 p3 p4 =
  bif decide (p1 < (↑p3.length : Int)) then (chk (decide ((0 : Int) ≤ p1 ∧ p1 < (↑p3.length : Int))) (bif (rd ((Ty.int Go.IntKind.i64).pair ((Ty.int Go.IntKind.i64).pair (Ty.int Go.IntKind.i64))) p3 p1).fst == p0 then (chk (decide ((p4 ++ [p1]).length * (8 : Nat) ≤ (140737488355328 : Nat))) (f50.l0 k n (p0) (Go.IntKind.i64.wrap (p1 + (1 : Int))) (p2) (p3) (p4 ++ [p1]))) else (f50.l0 k n (p0) (Go.IntKind.i64.wrap (p1 + (1 : Int))) (p2) (p3) (p4)))) else (some (.tup [(.own (.int .i64) (p4)), (.int .i64 ((0 : Int)))])) := by kernel_rfl
theorem f50.eq (k : Nat) (x0 : Int × List (Int × Int × Int)) (x1 : Int) : evFn (f50.E k) 9 50 Try.f50 [(.agg [(.int .i64 (x0.fst)), (.ro (.pair (.int .i64) (.pair (.int .i64) (.int .i64))) (x0.snd))]), (.int .i64 (x1))] =
  bif !graphMay x0 then (some (.tup [(.own (.int .i64) ([])), (.int .i64 ((400 : Int)))])) else (bif !hasV x0.fst x1 then (some (.tup [(.own (.int .i64) ([])), (.int .i64 ((400 : Int)))])) else (f50.l0 k k (x1) ((0 : Int)) (x0.fst) (x0.snd) ([]))) := by kernel_rfl
theorem f50.inl (k : Nat) : InlOk Try.prog (f50.E k) := inl_nil
theorem f50.sums (k : Nat) : SumsOk Try.prog (f50.E k) := (sums_cons ok90 (sums_cons ok93 sums_nil))
end Go.Proofs.Ytiboikgoaihccaa.R
