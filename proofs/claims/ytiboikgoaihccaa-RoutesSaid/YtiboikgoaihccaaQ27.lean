/-
Equations of functions, printed by program.
-/
import Derived.Test.YtiboikgoaihccaaProg
import Derived.Test.YtiboikgoaihccaaRC
import Derived.Test.YtiboikgoaihccaaTt
import Derived.Test.YtiboikgoaihccaaS24
import Derived.Test.YtiboikgoaihccaaS26
import Derived.KernelRfl
namespace Go.Proofs.Ytiboikgoaihccaa.R
set_option maxRecDepth 100000
set_option linter.unusedVariables false
noncomputable def f60.E (k : Nat) : Env := mkEnv tt [(58, S58), (107, S107), (108, S108)] [] [] [] k
noncomputable def f60.code : Go.Code := (Go.Func.body Try.f60).getD .skip
theorem f60.eq (k : Nat) (x0 : Int × List (Int × Int × Int)) (x1 : Int) (x2 : Int) (x3 : List Int) : evFn (f60.E k) 9 60 Try.f60 [(.agg [(.int .i64 (x0.fst)), (.ro (.pair (.int .i64) (.pair (.int .i64) (.int .i64))) (x0.snd))]), (.int .i64 (x1)), (.int .i64 (x2)), (.ro (.int .i64) (x3))] =
  bif (walkOf x0 x1 x3).snd != (0 : Int) then (some (.bool (false))) else (bif (↑x3.length : Int) == (0 : Int) then (some (.bool (false))) else (chk (decide ((0 : Int) ≤ (↑x3.length : Int) ∧ (↑x3.length : Int) < (↑(walkOf x0 x1 x3).fst.length : Int))) (bif rd tI (walkOf x0 x1 x3).fst (↑(↑x3.length : Int).toNat : Int) != x2 then (some (.bool (false))) else ((chk (decide ((0 : Nat) < (walkOf x0 x1 x3).fst.length ∧ (walkOf x0 x1 x3).fst.length < (4611686018427387904 : Nat))) (some (sortI (walkOf x0 x1 x3).fst))).bind (fun y0 => (chk (decide ((0 : Nat) < y0.length ∧ y0.length < (4611686018427387904 : Nat))) (some (Go.Lib.compact y0 ++ List.replicate (y0.length - (Go.Lib.compact y0).length) (0 : Int)))).bind (fun y1 => some (.bool ((↑(Go.Lib.compact y0).length : Int) == Go.IntKind.i64.wrap ((↑x3.length : Int) + (1 : Int)))))))))) := by kernel_rfl
theorem f60.inl (k : Nat) : InlOk Try.prog (f60.E k) := inl_nil
theorem f60.sums (k : Nat) : SumsOk Try.prog (f60.E k) := (sums_cons ok58 (sums_cons ok107 (sums_cons ok108 sums_nil)))
noncomputable def f61.E (k : Nat) : Env := mkEnv tt [(59, S59)] [(109, Try.f109)] [(109, 5, [.kill (rg [(1, 2), (5, 24)]), .tidy]), (109, 2, [.kill (rg [(1, 2), (4, 24)]), .tidy])] [(109, 2368, (rg [(0, 34), (36, 36), (38, 39)]))] k
noncomputable def f61.code : Go.Code := (Go.Func.body Try.f61).getD .skip
noncomputable def f61.l0 (k n : Nat) (p0 : Int) (p1 : List Int) : Option V :=
  atPath (f61.E k) n ⟨[(.slw (16 : Nat)), .undef, .undef, (.int .i64 (p0)), .undef, .undef, .undef, .undef, .undef, .undef, .undef, .undef, .undef, .undef, .undef, .undef, .undef, .undef, .undef, .undef, .undef, .undef, .undef, .undef, .undef], [[.undef, .undef, .undef, .undef, .undef, .undef, .undef, .undef, .undef, .undef, .undef, .undef, .undef, .undef, .undef, .undef, .undef, .undef, .undef, .undef, .undef, .undef, .undef, .undef, .undef, .undef, .undef, .undef, .undef, .undef, .undef, .undef, .undef, .undef, .undef, (.bool (true)), .undef, .undef, .undef, .undef]], [((16 : Nat), .row (.int .i64) (p1))]⟩ 9 0 61 [.c 1, .c 1, .c 0, .call 19 109, .c 1, .c 0, .c 1, .c 0] [] f61.code (finK tt Try.f61)
noncomputable def f61.l1 (k n m0 : Nat) (p0 : Int) (p1 : Int) (p2 : List Int) : Option V :=
  atPath (f61.E k) n ⟨[(.slw (16 : Nat)), .undef, .undef, (.int .i64 (p0)), (.int .i64 (p1)), .undef, .undef, .undef, .undef, .undef, .undef, .undef, .undef, .undef, .undef, .undef, .undef, .undef, .undef, .undef, .undef, .undef, .undef, .undef, .undef], [[.undef, .undef, .undef, .undef, .undef, .undef, .undef, .undef, .undef, .undef, .undef, .undef, .undef, .undef, .undef, .undef, .undef, .undef, .undef, .undef, .undef, .undef, .undef, .undef, .undef, .undef, .undef, .undef, .undef, .undef, .undef, .undef, .undef, .undef, .undef, (.bool (true)), .undef, .undef, .undef, .undef]], [((16 : Nat), .row (.int .i64) (p2))]⟩ 9 0 61 [.c 1, .c 1, .c 0, .call 19 109, .c 1, .c 0, .c 1, .c 0, .c 0, .c 1, .c 0, .c 0, .c 1, .c 0] [m0] f61.code (finK tt Try.f61)
theorem f61.l0_eq (k n : Nat) (p0 : Int) (p1 : List Int) : f61.l0 k (n + 1) p0 p1 =
  bif decide (p0 < (↑p1.length : Int)) then (f61.l1 k k n (p0) ((0 : Int)) (p1)) else (some (.bool (!false))) := by kernel_rfl
theorem f61.l1_eq (k n m0 : Nat) (p0 : Int) (p1 : Int) (p2 : List Int) : f61.l1 k (n + 1) m0 p0 p1 p2 =
  bif decide (p1 < p0) then (chk (decide ((0 : Int) ≤ p0 ∧ p0 < (↑p2.length : Int))) (chk (decide ((0 : Int) ≤ p1 ∧ p1 < (↑p2.length : Int))) (bif rd (Ty.int Go.IntKind.i64) p2 (↑p0.toNat : Int) == rd (Ty.int Go.IntKind.i64) p2 (↑p1.toNat : Int) then (some (.bool (!true))) else (f61.l1 k n m0 (p0) (Go.IntKind.i64.wrap (p1 + (1 : Int))) (p2))))) else (f61.l0 k m0 (Go.IntKind.i64.wrap (p0 + (1 : Int))) (p2)) := by kernel_rfl
theorem f61.eq (k : Nat) (x0 : Int × List (Int × Int × Int)) (x1 : Int) (x2 : Int) (x3 : List Int) : evFn (f61.E k) 9 61 Try.f61 [(.agg [(.int .i64 (x0.fst)), (.ro (.pair (.int .i64) (.pair (.int .i64) (.int .i64))) (x0.snd))]), (.int .i64 (x1)), (.int .i64 (x2)), (.ro (.int .i64) (x3))] =
  bif (walkOf x0 x1 x3).snd == (0 : Int) then (bif decide ((↑x3.length : Int) > (0 : Int)) then (chk (decide ((0 : Int) ≤ Go.IntKind.i64.wrap ((↑(walkOf x0 x1 x3).fst.length : Int) - (1 : Int)) ∧ Go.IntKind.i64.wrap ((↑(walkOf x0 x1 x3).fst.length : Int) - (1 : Int)) < (↑(walkOf x0 x1 x3).fst.length : Int))) (bif rd tI (walkOf x0 x1 x3).fst (↑(Go.IntKind.i64.wrap ((↑(walkOf x0 x1 x3).fst.length : Int) - (1 : Int))).toNat : Int) == x2 then (f61.l0 k k ((0 : Int)) ((walkOf x0 x1 x3).fst)) else (some (.bool (false))))) else (some (.bool (false)))) else (some (.bool (false))) := by kernel_rfl
theorem f61.inl (k : Nat) : InlOk Try.prog (f61.E k) := (inl_cons (by kernel_rfl) (by kernel_rfl) inl_nil)
theorem f61.sums (k : Nat) : SumsOk Try.prog (f61.E k) := (sums_cons ok59 sums_nil)
noncomputable def f110.E (k : Nat) : Env := mkEnv tt [] [] [] [] k
noncomputable def f110.code : Go.Code := (Go.Func.body Try.f110).getD .skip
theorem f110.eq (k : Nat) : evFn (f110.E k) 9 110 Try.f110 [] =
  some (.agg [(.int .i64 ((3 : Int))), (.own (.pair (.int .i64) (.pair (.int .i64) (.int .i64))) ([((0 : Int), (1 : Int), (5 : Int)), ((1 : Int), (2 : Int), (4 : Int)), ((0 : Int), (2 : Int), (3 : Int))]))]) := by kernel_rfl
theorem f110.inl (k : Nat) : InlOk Try.prog (f110.E k) := inl_nil
theorem f110.sums (k : Nat) : SumsOk Try.prog (f110.E k) := sums_nil
end Go.Proofs.Ytiboikgoaihccaa.R
