/-
Equations of functions, printed by program.
-/
import Derived.Test.YtiboikgoaihccaaProg
import Derived.Test.YtiboikgoaihccaaRC
import Derived.Test.YtiboikgoaihccaaTt
import Derived.Test.YtiboikgoaihccaaG1
import Derived.KernelRfl
namespace Go.Proofs.Ytiboikgoaihccaa.R
set_option maxRecDepth 100000
set_option linter.unusedVariables false
noncomputable def f48.E (k : Nat) : Env := mkEnv tt [] [] [(48, 2, [.kill (rg [(2, 4), (6, 17)]), .tidy])] [] k
noncomputable def f48.code : Go.Code := (Go.Func.body Try.f48).getD .skip
noncomputable def f48.l0 (k n : Nat) (p0 : List Int) (p1 : Int) (p2 : Int) : Option V :=
  atPath (f48.E k) n ⟨[(.ro (.int .i64) (p0)), (.int .i64 (p1)), .undef, .undef, .undef, (.int .i64 (p2)), .undef, .undef, .undef, .undef, .undef, .undef, .undef, .undef, .undef, .undef, .undef, .undef], [], []⟩ 9 0 48 [.c 1, .c 0, .c 1, .c 0] [] f48.code (finK tt Try.f48)
theorem f48.l0_eq (k n : Nat) (p0 : List Int) (p1 : Int) (p2 : Int) : f48.l0 k (n + 1) p0 p1 p2 =
  bif decide (p2 < (↑p0.length : Int)) then (chk (decide ((0 : Int) ≤ p2 ∧ p2 < (↑p0.length : Int))) (bif rd (Ty.int Go.IntKind.i64) p0 p2 == p1 then (some (.bool (true))) else (f48.l0 k n (p0) (p1) (Go.IntKind.i64.wrap (p2 + (1 : Int)))))) else (some (.bool (false))) := by kernel_rfl
theorem f48.eq (k : Nat) (x0 : List Int) (x1 : Int) : evFn (f48.E k) 9 48 Try.f48 [(.ro (.int .i64) (x0)), (.int .i64 (x1))] =
  f48.l0 k k (x0) (x1) ((0 : Int)) := by kernel_rfl
theorem f48.inl (k : Nat) : InlOk Try.prog (f48.E k) := inl_nil
theorem f48.sums (k : Nat) : SumsOk Try.prog (f48.E k) := sums_nil
noncomputable def f89.E (k : Nat) : Env := mkEnv tt [] [(111, Try.f111)] [(111, 2, [.kill (rg [(2, 6), (9, 18)]), .tidy])] [(111, 448, (rg [(0, 6), (8, 8)]))] k
noncomputable def f89.code : Go.Code := (Go.Func.body Try.f89).getD .skip
noncomputable def f89.l0 (k n : Nat) (p0 : List Int) (p1 : Int) (p2 : Int) (p3 : Int) : Option V :=
  atPath (f89.E k) n ⟨[(.ro (.int .i64) (p0)), (.int .i64 (p1)), .undef, .undef, .undef, .undef, .undef, (.int .i64 (p2)), (.int .i64 (p3)), .undef, .undef, .undef, .undef, .undef, .undef, .undef, .undef, .undef, .undef], [[.undef, .undef, .undef, .undef, .undef, .undef, .undef, .undef, .undef]], []⟩ 9 0 89 [.c 1, .c 0, .call 2 111, .c 1, .c 0, .c 1, .c 0] [] f89.code (finK tt Try.f89)
theorem f89.l0_eq (k n : Nat) (p0 : List Int) (p1 : Int) (p2 : Int) (p3 : Int) : f89.l0 k (n + 1) p0 p1 p2 p3 =
  bif decide (p3 < p2) then (chk (decide ((0 : Int) ≤ p3 ∧ p3 < (↑p0.length : Int))) (bif p1 == rd (Ty.int Go.IntKind.i64) p0 p3 then (some (.bool (decide (p3 ≥ (0 : Int))))) else (f89.l0 k n (p0) (p1) (p2) (Go.IntKind.i64.wrap (p3 + (1 : Int)))))) else (some (.bool (decide ((-1 : Int) ≥ (0 : Int))))) := by kernel_rfl
theorem f89.eq (k : Nat) (x0 : List Int) (x1 : Int) : evFn (f89.E k) 9 89 Try.f89 [(.ro (.int .i64) (x0)), (.int .i64 (x1))] =
  f89.l0 k k (x0) (x1) ((↑x0.length : Int)) ((0 : Int)) := by kernel_rfl
theorem f89.inl (k : Nat) : InlOk Try.prog (f89.E k) := (inl_cons (by kernel_rfl) (by kernel_rfl) inl_nil)
theorem f89.sums (k : Nat) : SumsOk Try.prog (f89.E k) := sums_nil
noncomputable def f92.E (k : Nat) : Env := mkEnv tt [] [] [] [] k
noncomputable def f92.code : Go.Code := (Go.Func.body Try.f92).getD .skip
theorem f92.eq (k : Nat) (x0 : Int × List (Int × Int × Int)) (x1 : Int) : evFn (f92.E k) 9 92 Try.f92 [(.agg [(.int .i64 (x0.fst)), (.ro (.pair (.int .i64) (.pair (.int .i64) (.int .i64))) (x0.snd))]), (.int .i64 (x1))] =
  bif decide (x1 ≥ (0 : Int)) then (some (.bool (decide (x1 < x0.fst)))) else (some (.bool (false))) := by kernel_rfl
theorem f92.inl (k : Nat) : InlOk Try.prog (f92.E k) := inl_nil
theorem f92.sums (k : Nat) : SumsOk Try.prog (f92.E k) := sums_nil
noncomputable def f93.E (k : Nat) : Env := mkEnv tt [] [] [] [] k
noncomputable def f93.code : Go.Code := (Go.Func.body Try.f93).getD .skip
theorem f93.eq (k : Nat) (x0 : Int × List (Int × Int × Int)) (x1 : Int) : evFn (f93.E k) 9 93 Try.f93 [(.agg [(.int .i64 (x0.fst)), (.ro (.pair (.int .i64) (.pair (.int .i64) (.int .i64))) (x0.snd))]), (.int .i64 (x1))] =
  bif decide (x1 ≥ (0 : Int)) then (some (.bool (decide (x1 < x0.fst)))) else (some (.bool (false))) := by kernel_rfl
theorem f93.inl (k : Nat) : InlOk Try.prog (f93.E k) := inl_nil
theorem f93.sums (k : Nat) : SumsOk Try.prog (f93.E k) := sums_nil
noncomputable def f98.E (k : Nat) : Env := mkEnv tt [] [] [] [] k
noncomputable def f98.code : Go.Code := (Go.Func.body Try.f98).getD .skip
theorem f98.eq (k : Nat) (x0 : Int) : evFn (f98.E k) 9 98 Try.f98 [(.int .i64 (x0))] =
  bif decide (x0 ≥ (0 : Int)) then (some (.bool (decide (x0 ≤ (4611686018427387904 : Int))))) else (some (.bool (false))) := by kernel_rfl
theorem f98.inl (k : Nat) : InlOk Try.prog (f98.E k) := inl_nil
theorem f98.sums (k : Nat) : SumsOk Try.prog (f98.E k) := sums_nil
noncomputable def f114.E (k : Nat) : Env := mkEnv tt [] [] [] [] k
noncomputable def f114.code : Go.Code := (Go.Func.body Try.f114).getD .skip
theorem f114.eq (k : Nat) (x0 : Int) : evFn (f114.E k) 9 114 Try.f114 [(.int .i64 (x0))] =
  bif decide (x0 ≥ (0 : Int)) then (some (.bool (decide (x0 ≤ (4611686018427387904 : Int))))) else (some (.bool (false))) := by kernel_rfl
theorem f114.inl (k : Nat) : InlOk Try.prog (f114.E k) := inl_nil
theorem f114.sums (k : Nat) : SumsOk Try.prog (f114.E k) := sums_nil
noncomputable def f115.E (k : Nat) : Env := mkEnv tt [] [(98, Try.f98)] [(115, 3, [.kill (rg [(0, 3), (5, 6), (10, 26)]), .tidy])] [] k
noncomputable def f115.code : Go.Code := (Go.Func.body Try.f115).getD .skip
noncomputable def f115.l0 (k n : Nat) (p0 : Int) (p1 : List Int) (p2 : Int) (p3 : Int) : Option V :=
  atPath (f115.E k) n ⟨[.undef, .undef, .undef, .undef, (.int .i64 (p0)), .undef, .undef, (.ro (.int .i64) (p1)), (.int .i64 (p2)), (.int .i64 (p3)), .undef, .undef, .undef, .undef, .undef, .undef, .undef, .undef, .undef, .undef, .undef, .undef, .undef, .undef, .undef, .undef, .undef], [], []⟩ 9 0 115 [.c 1, .c 1, .c 0, .c 1, .c 0] [] f115.code (finK tt Try.f115)
theorem f115.l0_eq (k n : Nat) (p0 : Int) (p1 : List Int) (p2 : Int) (p3 : Int) : f115.l0 k (n + 1) p0 p1 p2 p3 =
  bif decide (p3 < p2) then (chk (decide ((0 : Int) ≤ p3 ∧ p3 < (↑p1.length : Int))) (bif decide (rd (Ty.int Go.IntKind.i64) p1 p3 ≥ (0 : Int)) then (bif !decide (rd (Ty.int Go.IntKind.i64) p1 p3 ≤ (4611686018427387904 : Int)) then (some (.tup [(.int .i64 ((0 : Int))), (.bool (false))])) else (bif decide (rd (Ty.int Go.IntKind.i64) p1 p3 > Go.IntKind.i64.wrap ((4611686018427387904 : Int) - p0)) then (some (.tup [(.int .i64 ((0 : Int))), (.bool (false))])) else (f115.l0 k n (Go.IntKind.i64.wrap (p0 + rd (Ty.int Go.IntKind.i64) p1 p3)) (p1) (p2) (Go.IntKind.i64.wrap (p3 + (1 : Int)))))) else (some (.tup [(.int .i64 ((0 : Int))), (.bool (false))])))) else (some (.tup [(.int .i64 (p0)), (.bool (true))])) := by kernel_rfl
theorem f115.eq (k : Nat) (x0 : List Int) : evFn (f115.E k) 9 115 Try.f115 [(.ro (.int .i64) (x0))] =
  f115.l0 k k ((0 : Int)) (x0) ((↑x0.length : Int)) ((0 : Int)) := by kernel_rfl
theorem f115.inl (k : Nat) : InlOk Try.prog (f115.E k) := (inl_cons (by kernel_rfl) (by kernel_rfl) inl_nil)
theorem f115.sums (k : Nat) : SumsOk Try.prog (f115.E k) := sums_nil
noncomputable def f128.E (k : Nat) : Env := mkEnv tt [] [] [(128, 3, [.kill (rg [(0, 2), (4, 6), (10, 19)]), .tidy])] [] k
noncomputable def f128.code : Go.Code := (Go.Func.body Try.f128).getD .skip
noncomputable def f128.l0 (k n : Nat) (p0 : List (Int × Int × Int)) (p1 : Int) (p2 : Int) (p3 : List Int) : Option V :=
  atPath (f128.E k) n ⟨[.undef, .undef, .undef, (.slw (786448 : Nat)), .undef, .undef, .undef, (.ro (.pair (.int .i64) (.pair (.int .i64) (.int .i64))) (p0)), (.int .i64 (p1)), (.int .i64 (p2)), .undef, .undef, .undef, .undef, .undef, .undef, .undef, .undef, .undef, .undef], [], [((786448 : Nat), .row (.int .i64) (p3))]⟩ 9 0 128 [.c 1, .c 1, .c 0, .c 1, .c 0] [] f128.code (finK tt Try.f128)
theorem f128.l0_eq (k n : Nat) (p0 : List (Int × Int × Int)) (p1 : Int) (p2 : Int) (p3 : List Int) : f128.l0 k (n + 1) p0 p1 p2 p3 =
  bif decide (p2 < p1) then (chk (decide ((0 : Int) ≤ p2 ∧ p2 < (↑p0.length : Int))) (chk (decide ((p3 ++ [(rd ((Ty.int Go.IntKind.i64).pair ((Ty.int Go.IntKind.i64).pair (Ty.int Go.IntKind.i64))) p0 p2).snd.snd]).length * (8 : Nat) ≤ (140737488355328 : Nat))) (f128.l0 k n (p0) (p1) (Go.IntKind.i64.wrap (p2 + (1 : Int))) (p3 ++ [(rd ((Ty.int Go.IntKind.i64).pair ((Ty.int Go.IntKind.i64).pair (Ty.int Go.IntKind.i64))) p0 p2).snd.snd])))) else (some (.own (.int .i64) (p3))) := by kernel_rfl
theorem f128.eq (k : Nat) (x0 : Int × List (Int × Int × Int)) : evFn (f128.E k) 9 128 Try.f128 [(.agg [(.int .i64 (x0.fst)), (.ro (.pair (.int .i64) (.pair (.int .i64) (.int .i64))) (x0.snd))])] =
  f128.l0 k k (x0.snd) ((↑(List.length x0.snd) : Int)) ((0 : Int)) ([]) := by kernel_rfl
theorem f128.inl (k : Nat) : InlOk Try.prog (f128.E k) := inl_nil
theorem f128.sums (k : Nat) : SumsOk Try.prog (f128.E k) := sums_nil
noncomputable def f43.E (k : Nat) : Env := mkEnv tt [] [] [(43, 4, [.kill (rg [(0, 1), (4, 4), (6, 37)]), .tidy])] [] k
noncomputable def f43.code : Go.Code := (Go.Func.body Try.f43).getD .skip
noncomputable def f43.l0 (k n : Nat) (p0 : Int) (p1 : Int) (p2 : List (Int × Int × Int)) (p3 : Int) (p4 : List (Int × Int × Int)) : Option V :=
  atPath (f43.E k) n ⟨[.undef, .undef, (.ptr (524304 : Nat) ((0 : Nat)) ((0 : Nat))), (.ptr (786448 : Nat) ((0 : Nat)) ((0 : Nat))), .undef, (.int .i64 (p0)), .undef, .undef, .undef, .undef, .undef, .undef, .undef, .undef, .undef, .undef, .undef, .undef, .undef, .undef, .undef, .undef, .undef, .undef, .undef, .undef, .undef, .undef, .undef, .undef, .undef, .undef, .undef, .undef, .undef, .undef, .undef, .undef], [], [((524304 : Nat), .box [(.int .i64 (p1)), (.ro (.pair (.int .i64) (.pair (.int .i64) (.int .i64))) (p2))]), ((786448 : Nat), .box [(.int .i64 (p3)), (.ro (.pair (.int .i64) (.pair (.int .i64) (.int .i64))) (p4))])]⟩ 9 0 43 [.c 1, .c 1, .c 0, .c 1, .c 0] [] f43.code (finK tt Try.f43)
theorem f43.l0_eq (k n : Nat) (p0 : Int) (p1 : Int) (p2 : List (Int × Int × Int)) (p3 : Int) (p4 : List (Int × Int × Int)) : f43.l0 k (n + 1) p0 p1 p2 p3 p4 =
  bif decide (p0 < (↑p2.length : Int)) then (chk (decide ((0 : Int) ≤ p0 ∧ p0 < (↑p2.length : Int))) (chk (decide ((0 : Int) ≤ p0 ∧ p0 < (↑p4.length : Int))) (bif !((rd ((Ty.int Go.IntKind.i64).pair ((Ty.int Go.IntKind.i64).pair (Ty.int Go.IntKind.i64))) p2 p0).fst == (rd ((Ty.int Go.IntKind.i64).pair ((Ty.int Go.IntKind.i64).pair (Ty.int Go.IntKind.i64))) p4 p0).fst && ((rd ((Ty.int Go.IntKind.i64).pair ((Ty.int Go.IntKind.i64).pair (Ty.int Go.IntKind.i64))) p2 p0).snd.fst == (rd ((Ty.int Go.IntKind.i64).pair ((Ty.int Go.IntKind.i64).pair (Ty.int Go.IntKind.i64))) p4 p0).snd.fst && ((rd ((Ty.int Go.IntKind.i64).pair ((Ty.int Go.IntKind.i64).pair (Ty.int Go.IntKind.i64))) p2 p0).snd.snd == (rd ((Ty.int Go.IntKind.i64).pair ((Ty.int Go.IntKind.i64).pair (Ty.int Go.IntKind.i64))) p4 p0).snd.snd && true))) then (some (.bool (false))) else (f43.l0 k n (Go.IntKind.i64.wrap (p0 + (1 : Int))) (p1) (p2) (p3) (p4))))) else (some (.bool (true))) := by kernel_rfl
theorem f43.eq (k : Nat) (x0 : Int × List (Int × Int × Int)) (x1 : Int × List (Int × Int × Int)) : evFn (f43.E k) 9 43 Try.f43 [(.agg [(.int .i64 (x0.fst)), (.ro (.pair (.int .i64) (.pair (.int .i64) (.int .i64))) (x0.snd))]), (.agg [(.int .i64 (x1.fst)), (.ro (.pair (.int .i64) (.pair (.int .i64) (.int .i64))) (x1.snd))])] =
  bif x0.fst != x1.fst then (some (.bool (false))) else (bif (↑(List.length x0.snd) : Int) != (↑(List.length x1.snd) : Int) then (some (.bool (false))) else (f43.l0 k k ((0 : Int)) (x0.fst) (x0.snd) (x1.fst) (x1.snd))) := by kernel_rfl
theorem f43.inl (k : Nat) : InlOk Try.prog (f43.E k) := inl_nil
theorem f43.sums (k : Nat) : SumsOk Try.prog (f43.E k) := sums_nil
end Go.Proofs.Ytiboikgoaihccaa.R
