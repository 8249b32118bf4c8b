/-
Equations of functions, printed by program.
-/
import Derived.Test.YtiboikgoaihccaaProg
import Derived.Test.YtiboikgoaihccaaRC
import Derived.Test.YtiboikgoaihccaaTt
import Derived.Test.YtiboikgoaihccaaS34
import Derived.KernelRfl
namespace Go.Proofs.Ytiboikgoaihccaa.R
set_option maxRecDepth 100000
set_option linter.unusedVariables false
noncomputable def f72.E (k : Nat) : Env := mkEnv tt [(67, S67), (95, S95)] [] [(72, 7, [.kill (rg [(0, 0), (2, 24), (28, 38)]), .tidy])] [] k
noncomputable def f72.code : Go.Code := (Go.Func.body Try.f72).getD .skip
noncomputable def f72.l0 (k n : Nat) (p0 : List Int) (p1 : Int) (p2 : Int) (p3 : List Int) : Option V :=
  atPath (f72.E k) n ⟨[.undef, (.ro (.int .i64) (p0)), .undef, .undef, .undef, .undef, .undef, .undef, .undef, .undef, .undef, .undef, .undef, .undef, .undef, .undef, .undef, .undef, .undef, .undef, .undef, .undef, .undef, .undef, .undef, (.slw (6553616 : Nat)), (.int .i64 (p1)), (.int .i64 (p2)), .undef, .undef, .undef, .undef, .undef, .undef, .undef, .undef, .undef, .undef, .undef], [], [((6553616 : Nat), .row (.int .i64) (p3))]⟩ 9 0 72 [.c 1, .c 1, .c 1, .c 1, .c 0, .c 1, .c 0] [] f72.code (finK tt Try.f72)
theorem f72.l0_eq (k n : Nat) (p0 : List Int) (p1 : Int) (p2 : Int) (p3 : List Int) : f72.l0 k (n + 1) p0 p1 p2 p3 =
  bif decide (p2 < p1) then (chk (decide ((0 : Int) ≤ p2 ∧ p2 < (↑p3.length : Int))) (chk (decide ((0 : Int) ≤ p2 ∧ p2 < (↑p0.length : Int))) (bif decide (rd (Ty.int Go.IntKind.i64) p3 (↑p2.toNat : Int) > rd (Ty.int Go.IntKind.i64) p0 p2) then (some (.tup [(.bool (false)), (.int .i64 ((0 : Int)))])) else (f72.l0 k n (p0) (p1) (Go.IntKind.i64.wrap (p2 + (1 : Int))) (p3))))) else (some (.tup [(.bool (true)), (.int .i64 ((0 : Int)))])) := by kernel_rfl
theorem f72.eq (k : Nat) (x0 : Int × List (Int × Int × Int)) (x1 : List Int) (x2 : List (Int × List Int)) : evFn (f72.E k) 9 72 Try.f72 [(.agg [(.int .i64 (x0.fst)), (.ro (.pair (.int .i64) (.pair (.int .i64) (.int .i64))) (x0.snd))]), (.ro (.int .i64) (x1)), (.ro (.pair (.int .i64) (.list (.int .i64))) (x2))] =
  bif !capsMay x0 x1 then (some (.tup [(.bool (false)), (.int .i64 ((700 : Int)))])) else (bif (loadsOf x0 x2).snd != (0 : Int) then (some (.tup [(.bool (false)), (.int .i64 ((loadsOf x0 x2).snd))])) else (f72.l0 k k (x1) ((↑(loadsOf x0 x2).fst.length : Int)) ((0 : Int)) ((loadsOf x0 x2).fst))) := by kernel_rfl
theorem f72.inl (k : Nat) : InlOk Try.prog (f72.E k) := inl_nil
theorem f72.sums (k : Nat) : SumsOk Try.prog (f72.E k) := (sums_cons ok67 (sums_cons ok95 sums_nil))
noncomputable def f54.E (k : Nat) : Env := mkEnv tt [(49, S49), (68, S68)] [(103, Try.f103)] [(103, 4, [.kill (rg [(2, 4), (6, 32)]), .tidy])] [(103, 1600, (rg [(0, 24)]))] k
noncomputable def f54.code : Go.Code := (Go.Func.body Try.f54).getD .skip
noncomputable def f54.l0 (k n : Nat) (p0 : List Int) (p1 : Int) (p2 : List Int) : Option V :=
  atPath (f54.E k) n ⟨[(.ro (.int .i64) (p0)), (.slw (262160 : Nat)), .undef, .undef, .undef, (.int .i64 (p1)), .undef, .undef, .undef, .undef, .undef, .undef, .undef, .undef, .undef, .undef, .undef, .undef, .undef, .undef, .undef, .undef, .undef, .undef, .undef, .undef, .undef, .undef, .undef, .undef, .undef, .undef, .undef], [[.undef, .undef, .undef, .undef, .undef, .undef, .undef, .undef, .undef, .undef, .undef, .undef, .undef, .undef, .undef, .undef, .undef, .undef, .undef, .undef, .undef, .undef, .undef, .undef, .undef, .undef]], [((262160 : Nat), .row (.int .i64) (p2))]⟩ 9 0 54 [.c 1, .c 1, .c 1, .c 1, .c 0, .call 2 103, .c 1, .c 1, .c 0, .c 1, .c 0] [] f54.code (finK tt Try.f54)
theorem f54.l0_eq (k n : Nat) (p0 : List Int) (p1 : Int) (p2 : List Int) : f54.l0 k (n + 1) p0 p1 p2 =
  bif decide (p1 < (↑p2.length : Int)) then (chk (decide ((0 : Int) ≤ p1 ∧ p1 < (↑p2.length : Int))) (bif decide (rd (Ty.int Go.IntKind.i64) p2 (↑p1.toNat : Int) < (0 : Int)) then (some (.tup [(.bool (false)), (.int .i64 ((0 : Int)))])) else (chk (decide ((0 : Int) ≤ p1 ∧ p1 < (↑p2.length : Int))) (chk (decide ((0 : Int) ≤ p1 ∧ p1 < (↑p0.length : Int))) (bif decide (rd (Ty.int Go.IntKind.i64) p2 (↑p1.toNat : Int) > rd (Ty.int Go.IntKind.i64) p0 p1) then (some (.tup [(.bool (false)), (.int .i64 ((0 : Int)))])) else (f54.l0 k n (p0) (Go.IntKind.i64.wrap (p1 + (1 : Int))) (p2))))))) else (some (.tup [(.bool (true)), (.int .i64 ((0 : Int)))])) := by kernel_rfl
theorem f54.eq (k : Nat) (x0 : Int × List (Int × Int × Int)) (x1 : List Int) (x2 : List (Int × List Int)) : evFn (f54.E k) 9 54 Try.f54 [(.agg [(.int .i64 (x0.fst)), (.ro (.pair (.int .i64) (.pair (.int .i64) (.int .i64))) (x0.snd))]), (.ro (.int .i64) (x1)), (.ro (.pair (.int .i64) (.list (.int .i64))) (x2))] =
  bif !capsMay x0 x1 then (some (.tup [(.bool (false)), (.int .i64 ((700 : Int)))])) else (bif (loadsOf x0 x2).snd != (0 : Int) then (some (.tup [(.bool (false)), (.int .i64 ((loadsOf x0 x2).snd))])) else (bif (↑(loadsOf x0 x2).fst.length : Int) != (↑x1.length : Int) then (some (.tup [(.bool (false)), (.int .i64 ((0 : Int)))])) else (f54.l0 k k (x1) ((0 : Int)) ((loadsOf x0 x2).fst)))) := by kernel_rfl
theorem f54.inl (k : Nat) : InlOk Try.prog (f54.E k) := (inl_cons (by kernel_rfl) (by kernel_rfl) inl_nil)
theorem f54.sums (k : Nat) : SumsOk Try.prog (f54.E k) := (sums_cons ok49 (sums_cons ok68 sums_nil))
end Go.Proofs.Ytiboikgoaihccaa.R
