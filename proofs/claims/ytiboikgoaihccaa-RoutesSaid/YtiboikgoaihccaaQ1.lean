/-
Equations of functions, printed by program.
-/
import Derived.Test.YtiboikgoaihccaaProg
import Derived.Test.YtiboikgoaihccaaRC
import Derived.Test.YtiboikgoaihccaaTt
import Derived.KernelRfl
namespace Go.Proofs.Ytiboikgoaihccaa.R
set_option maxRecDepth 100000
set_option linter.unusedVariables false
noncomputable def f77.E (k : Nat) : Env := mkEnv tt [] [] [] [] k
noncomputable def f77.code : Go.Code := (Go.Func.body Try.f77).getD .skip
theorem f77.eq (k : Nat) (x0 : Int × Int) : evFn (f77.E k) 9 77 Try.f77 [(.agg [(.int .i64 (x0.fst)), (.int .i64 (x0.snd))])] =
  bif decide (x0.fst ≥ 0) then (bif decide (x0.fst < x0.snd) then (some (.bool (decide (x0.snd ≤ 4096)))) else (some (.bool (false)))) else (some (.bool (false))) := by kernel_rfl
theorem f77.inl (k : Nat) : InlOk Try.prog (f77.E k) := inl_nil
theorem f77.sums (k : Nat) : SumsOk Try.prog (f77.E k) := sums_nil
noncomputable def f83.E (k : Nat) : Env := mkEnv tt [] [] [] [] k
noncomputable def f83.code : Go.Code := (Go.Func.body Try.f83).getD .skip
theorem f83.eq (k : Nat) (x0 : Int × Int) : evFn (f83.E k) 9 83 Try.f83 [(.agg [(.int .i64 (x0.fst)), (.int .i64 (x0.snd))])] =
  bif decide (x0.fst ≥ 0) then (bif decide (x0.fst < x0.snd) then (some (.bool (decide (x0.snd ≤ 4096)))) else (some (.bool (false)))) else (some (.bool (false))) := by kernel_rfl
theorem f83.inl (k : Nat) : InlOk Try.prog (f83.E k) := inl_nil
theorem f83.sums (k : Nat) : SumsOk Try.prog (f83.E k) := sums_nil
noncomputable def f31.E (k : Nat) : Env := mkEnv tt [] [] [] [] k
noncomputable def f31.code : Go.Code := (Go.Func.body Try.f31).getD .skip
theorem f31.eq (k : Nat) (x0 : Int) : evFn (f31.E k) 9 31 Try.f31 [(.int .i64 (x0))] =
  some (.int .i64 (x0)) := by kernel_rfl
theorem f31.inl (k : Nat) : InlOk Try.prog (f31.E k) := inl_nil
theorem f31.sums (k : Nat) : SumsOk Try.prog (f31.E k) := sums_nil
noncomputable def f85.E (k : Nat) : Env := mkEnv tt [] [] [(85, 4, [.kill (rg [(2, 4), (6, 25)]), .tidy])] [] k
noncomputable def f85.code : Go.Code := (Go.Func.body Try.f85).getD .skip
noncomputable def f85.l0 (k n : Nat) (p0 : List Int) (p1 : List Int) (p2 : Int) : Option V :=
  atPath (f85.E k) n ⟨[(.ro (.int .i64) (p0)), (.ro (.int .i64) (p1)), .undef, .undef, .undef, (.int .i64 (p2)), .undef, .undef, .undef, .undef, .undef, .undef, .undef, .undef, .undef, .undef, .undef, .undef, .undef, .undef, .undef, .undef, .undef, .undef, .undef, .undef], [], []⟩ 9 0 85 [.c 1, .c 1, .c 0, .c 1, .c 0] [] f85.code (finK tt Try.f85)
theorem f85.l0_eq (k n : Nat) (p0 : List Int) (p1 : List Int) (p2 : Int) : f85.l0 k (n + 1) p0 p1 p2 =
  bif decide (p2 < (↑p0.length : Int)) then (chk (decide (0 ≤ p2 ∧ p2 < (↑p0.length : Int))) (chk (decide (0 ≤ p2 ∧ p2 < (↑p1.length : Int))) (bif rd (Ty.int Go.IntKind.i64) p0 p2 != rd (Ty.int Go.IntKind.i64) p1 p2 then (some (.bool (false))) else (f85.l0 k n (p0) (p1) (Go.IntKind.i64.wrap (p2 + 1)))))) else (some (.bool (true))) := by kernel_rfl
theorem f85.eq (k : Nat) (x0 : List Int) (x1 : List Int) : evFn (f85.E k) 9 85 Try.f85 [(.ro (.int .i64) (x0)), (.ro (.int .i64) (x1))] =
  bif (↑x0.length : Int) != (↑x1.length : Int) then (some (.bool (false))) else (f85.l0 k k (x0) (x1) (0)) := by kernel_rfl
theorem f85.inl (k : Nat) : InlOk Try.prog (f85.E k) := inl_nil
theorem f85.sums (k : Nat) : SumsOk Try.prog (f85.E k) := sums_nil
noncomputable def f86.E (k : Nat) : Env := mkEnv tt [] [] [] [] k
noncomputable def f86.code : Go.Code := (Go.Func.body Try.f86).getD .skip
theorem f86.eq (k : Nat) : evFn (f86.E k) 9 86 Try.f86 [] =
  some (.own (.int .i64) (List.replicate 16 (dflt (Ty.int Go.IntKind.i64)))) := by kernel_rfl
theorem f86.inl (k : Nat) : InlOk Try.prog (f86.E k) := inl_nil
theorem f86.sums (k : Nat) : SumsOk Try.prog (f86.E k) := sums_nil
noncomputable def f82.E (k : Nat) : Env := mkEnv tt [] [] [(82, 4, [.kill (rg [(1, 2), (4, 24)]), .tidy])] [] k
noncomputable def f82.code : Go.Code := (Go.Func.body Try.f82).getD .skip
noncomputable def f82.l0 (k n : Nat) (p0 : List Int) (p1 : Int) : Option V :=
  atPath (f82.E k) n ⟨[(.ro (.int .i64) (p0)), .undef, .undef, (.int .i64 (p1)), .undef, .undef, .undef, .undef, .undef, .undef, .undef, .undef, .undef, .undef, .undef, .undef, .undef, .undef, .undef, .undef, .undef, .undef, .undef, .undef, .undef], [], []⟩ 9 0 82 [.c 1, .c 1, .c 0, .c 1, .c 0] [] f82.code (finK tt Try.f82)
theorem f82.l0_eq (k n : Nat) (p0 : List Int) (p1 : Int) : f82.l0 k (n + 1) p0 p1 =
  bif decide (p1 < (↑p0.length : Int)) then (chk (decide (0 ≤ p1 ∧ p1 < (↑p0.length : Int))) (bif decide (rd (Ty.int Go.IntKind.i64) p0 p1 < 0) then (some (.bool (false))) else (chk (decide (0 ≤ p1 ∧ p1 < (↑p0.length : Int))) (bif decide (rd (Ty.int Go.IntKind.i64) p0 p1 > 1099511627776) then (some (.bool (false))) else (f82.l0 k n (p0) (Go.IntKind.i64.wrap (p1 + 1))))))) else (some (.bool (true))) := by kernel_rfl
theorem f82.eq (k : Nat) (x0 : List Int) : evFn (f82.E k) 9 82 Try.f82 [(.ro (.int .i64) (x0))] =
  bif (↑x0.length : Int) != 16 then (some (.bool (false))) else (f82.l0 k k (x0) (0)) := by kernel_rfl
theorem f82.inl (k : Nat) : InlOk Try.prog (f82.E k) := inl_nil
theorem f82.sums (k : Nat) : SumsOk Try.prog (f82.E k) := sums_nil
noncomputable def f35.E (k : Nat) : Env := mkEnv tt [] [] [(35, 4, [.kill (rg [(2, 4), (6, 25)]), .tidy])] [] k
noncomputable def f35.code : Go.Code := (Go.Func.body Try.f35).getD .skip
noncomputable def f35.l0 (k n : Nat) (p0 : List (Int × Int)) (p1 : List (Int × Int)) (p2 : Int) : Option V :=
  atPath (f35.E k) n ⟨[(.ro (.pair (.int .i64) (.int .i64)) (p0)), (.ro (.pair (.int .i64) (.int .i64)) (p1)), .undef, .undef, .undef, (.int .i64 (p2)), .undef, .undef, .undef, .undef, .undef, .undef, .undef, .undef, .undef, .undef, .undef, .undef, .undef, .undef, .undef, .undef, .undef, .undef, .undef, .undef], [], []⟩ 9 0 35 [.c 1, .c 1, .c 0, .c 1, .c 0] [] f35.code (finK tt Try.f35)
theorem f35.l0_eq (k n : Nat) (p0 : List (Int × Int)) (p1 : List (Int × Int)) (p2 : Int) : f35.l0 k (n + 1) p0 p1 p2 =
  bif decide (p2 < (↑p0.length : Int)) then (chk (decide (0 ≤ p2 ∧ p2 < (↑p0.length : Int))) (chk (decide (0 ≤ p2 ∧ p2 < (↑p1.length : Int))) (bif !((rd ((Ty.int Go.IntKind.i64).pair (Ty.int Go.IntKind.i64)) p0 p2).fst == (rd ((Ty.int Go.IntKind.i64).pair (Ty.int Go.IntKind.i64)) p1 p2).fst && ((rd ((Ty.int Go.IntKind.i64).pair (Ty.int Go.IntKind.i64)) p0 p2).snd == (rd ((Ty.int Go.IntKind.i64).pair (Ty.int Go.IntKind.i64)) p1 p2).snd && true)) then (some (.bool (false))) else (f35.l0 k n (p0) (p1) (Go.IntKind.i64.wrap (p2 + 1)))))) else (some (.bool (true))) := by kernel_rfl
theorem f35.eq (k : Nat) (x0 : List (Int × Int)) (x1 : List (Int × Int)) : evFn (f35.E k) 9 35 Try.f35 [(.ro (.pair (.int .i64) (.int .i64)) (x0)), (.ro (.pair (.int .i64) (.int .i64)) (x1))] =
  bif (↑x0.length : Int) != (↑x1.length : Int) then (some (.bool (false))) else (f35.l0 k k (x0) (x1) (0)) := by kernel_rfl
theorem f35.inl (k : Nat) : InlOk Try.prog (f35.E k) := inl_nil
theorem f35.sums (k : Nat) : SumsOk Try.prog (f35.E k) := sums_nil
noncomputable def f25.E (k : Nat) : Env := mkEnv tt [] [] [] [] k
noncomputable def f25.code : Go.Code := (Go.Func.body Try.f25).getD .skip
theorem f25.eq (k : Nat) (x0 : List (Int × Int)) : evFn (f25.E k) 9 25 Try.f25 [(.ro (.pair (.int .i64) (.int .i64)) (x0))] =
  chk (decide (([] ++ x0).length * 16 ≤ 140737488355328)) (some (.own (.pair (.int .i64) (.int .i64)) ([] ++ x0))) := by kernel_rfl
theorem f25.inl (k : Nat) : InlOk Try.prog (f25.E k) := inl_nil
theorem f25.sums (k : Nat) : SumsOk Try.prog (f25.E k) := sums_nil
noncomputable def f65.E (k : Nat) : Env := mkEnv tt [] [] [] [] k
noncomputable def f65.code : Go.Code := (Go.Func.body Try.f65).getD .skip
theorem f65.eq (k : Nat) (x0 : List Int) : evFn (f65.E k) 9 65 Try.f65 [(.ro (.int .i64) (x0))] =
  chk (decide (([] ++ x0).length * 8 ≤ 140737488355328)) (some (.own (.int .i64) ([] ++ x0))) := by kernel_rfl
theorem f65.inl (k : Nat) : InlOk Try.prog (f65.E k) := inl_nil
theorem f65.sums (k : Nat) : SumsOk Try.prog (f65.E k) := sums_nil
noncomputable def f78.E (k : Nat) : Env := mkEnv tt [] [] [] [] k
noncomputable def f78.code : Go.Code := (Go.Func.body Try.f78).getD .skip
theorem f78.eq (k : Nat) (x0 : List Int) : evFn (f78.E k) 9 78 Try.f78 [(.ro (.int .i64) (x0))] =
  bif (↑x0.length : Int) == 0 then (both (some (.own (.int .i64) ([]))) (chk (decide (([] ++ x0).length * 8 ≤ 140737488355328)) (some (.own (.int .i64) ([] ++ x0))))) else (chk (decide (([] ++ x0).length * 8 ≤ 140737488355328)) (some (.own (.int .i64) ([] ++ x0)))) := by kernel_rfl
theorem f78.inl (k : Nat) : InlOk Try.prog (f78.E k) := inl_nil
theorem f78.sums (k : Nat) : SumsOk Try.prog (f78.E k) := sums_nil
noncomputable def f74.E (k : Nat) : Env := mkEnv tt [] [(118, Try.f118), (119, Try.f119), (131, Try.f131)] [(131, 2, [.kill (rg [(2, 6), (9, 18)]), .tidy])] [(118, 512, (rg [(0, 5), (7, 7), (9, 10)])), (131, 262592, (rg [(0, 6), (8, 8)]))] k
noncomputable def f74.code : Go.Code := (Go.Func.body Try.f74).getD .skip
noncomputable def f74.l0 (k n : Nat) (p0 : List Int) (p1 : Int) (p2 : Int) : Option V :=
  atPath (f74.E k) n ⟨[(.ro (.int .i64) (p0)), (.fn 119 []), .undef, .undef, .undef, .undef, .undef, (.int .i64 (p1)), (.int .i64 (p2)), .undef, .undef, .undef, .undef, .undef, .undef, .undef, .undef, .undef, .undef], [[.undef, .undef, .undef, .undef, .undef, .undef, .undef, .undef, .undef], [.undef, .undef, .undef, .undef, .undef, .undef, (.bool (true)), .undef, .undef, .undef, .undef]], []⟩ 9 0 74 [.c 1, .c 0, .call 5 118, .c 1, .c 0, .call 2 131, .c 1, .c 0, .c 1, .c 0] [] f74.code (finK tt Try.f74)
theorem f74.l0_eq (k n : Nat) (p0 : List Int) (p1 : Int) (p2 : Int) : f74.l0 k (n + 1) p0 p1 p2 =
  bif decide (p2 < p1) then (chk (decide (0 ≤ p2 ∧ p2 < (↑p0.length : Int))) (bif decide (rd (Ty.int Go.IntKind.i64) p0 p2 < 0) then (some (.bool (!decide (p2 ≥ 0)))) else (bif decide (rd (Ty.int Go.IntKind.i64) p0 p2 > 1099511627776) then (some (.bool (!decide (p2 ≥ 0)))) else (f74.l0 k n (p0) (p1) (Go.IntKind.i64.wrap (p2 + 1)))))) else (some (.bool (!decide (-1 ≥ 0)))) := by kernel_rfl
theorem f74.eq (k : Nat) (x0 : List Int) : evFn (f74.E k) 9 74 Try.f74 [(.ro (.int .i64) (x0))] =
  bif (↑x0.length : Int) == 16 then (f74.l0 k k (x0) ((↑x0.length : Int)) (0)) else (some (.bool (false))) := by kernel_rfl
theorem f74.inl (k : Nat) : InlOk Try.prog (f74.E k) := (inl_cons (by kernel_rfl) (by kernel_rfl) (inl_cons (by kernel_rfl) (by kernel_rfl) (inl_cons (by kernel_rfl) (by kernel_rfl) inl_nil)))
theorem f74.sums (k : Nat) : SumsOk Try.prog (f74.E k) := sums_nil
end Go.Proofs.Ytiboikgoaihccaa.R
