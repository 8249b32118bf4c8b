/-
Equations of functions, printed by program.
-/
import Derived.Test.YtiboikgoaihccaaProg
import Derived.Test.YtiboikgoaihccaaRC
import Derived.Test.YtiboikgoaihccaaTt
import Derived.Test.YtiboikgoaihccaaS13
import Derived.KernelRfl
namespace Go.Proofs.Ytiboikgoaihccaa.R
set_option maxRecDepth 100000
set_option linter.unusedVariables false
noncomputable def f44.E (k : Nat) : Env := mkEnv tt [(38, S38), (95, S95), (115, S115)] [(96, Try.f96), (97, Try.f97), (122, Try.f122)] [(44, 6, [.kill (rg [(0, 0), (2, 9), (11, 26), (30, 40)]), .tidy])] [] k
noncomputable def f44.code : Go.Code := (Go.Func.body Try.f44).getD .skip
noncomputable def f44.l0 (k n : Nat) (p0 : List Int) (p1 : Int) (p2 : Int) (p3 : Int) (p4 : List Int) : Option V :=
  atPath (f44.E k) n ⟨[.undef, (.ro (.int .i64) (p0)), .undef, .undef, .undef, .undef, .undef, .undef, .undef, .undef, (.ptr (2621456 : Nat) ((0 : Nat)) ((0 : Nat))), .undef, .undef, .undef, .undef, .undef, .undef, .undef, .undef, .undef, .undef, .undef, .undef, .undef, .undef, .undef, .undef, (.slw (7077904 : Nat)), (.int .i64 (p1)), (.int .i64 (p2)), .undef, .undef, .undef, .undef, .undef, .undef, .undef, .undef, .undef, .undef, .undef], [], [((2621456 : Nat), .box [(.int .i64 (p3))]), ((7077904 : Nat), .row (.int .i64) (p4))]⟩ 9 0 44 [.c 1, .c 1, .c 1, .c 1, .c 0, .c 1, .c 0] [] f44.code (finK tt Try.f44)
theorem f44.l0_eq (k n : Nat) (p0 : List Int) (p1 : Int) (p2 : Int) (p3 : Int) (p4 : List Int) : f44.l0 k (n + 1) p0 p1 p2 p3 p4 =
  bif decide (p2 < p1) then (chk (decide ((0 : Int) ≤ p2 ∧ p2 < (↑p4.length : Int))) (chk (decide ((0 : Int) ≤ rd (Ty.int Go.IntKind.i64) p4 (↑p2.toNat : Int) ∧ rd (Ty.int Go.IntKind.i64) p4 (↑p2.toNat : Int) < (↑p0.length : Int))) (bif !(sumTold [rd (Ty.int Go.IntKind.i64) p0 (rd (Ty.int Go.IntKind.i64) p4 (↑p2.toNat : Int))]).snd then (f44.l0 k n (p0) (p1) (Go.IntKind.i64.wrap (p2 + (1 : Int))) (p3) (p4)) else (bif (sumTold [p3, (sumTold [rd (Ty.int Go.IntKind.i64) p0 (rd (Ty.int Go.IntKind.i64) p4 (↑p2.toNat : Int))]).fst]).snd then (f44.l0 k n (p0) (p1) (Go.IntKind.i64.wrap (p2 + (1 : Int))) ((sumTold [p3, (sumTold [rd (Ty.int Go.IntKind.i64) p0 (rd (Ty.int Go.IntKind.i64) p4 (↑p2.toNat : Int))]).fst]).fst) (p4)) else (f44.l0 k n (p0) (p1) (Go.IntKind.i64.wrap (p2 + (1 : Int))) (p3) (p4)))))) else (some (.tup [(.int .i64 (p3)), (.int .i64 ((0 : Int)))])) := by kernel_rfl
theorem f44.eq (k : Nat) (x0 : Int × List (Int × Int × Int)) (x1 : List Int) (x2 : List Int) : evFn (f44.E k) 9 44 Try.f44 [(.agg [(.int .i64 (x0.fst)), (.ro (.pair (.int .i64) (.pair (.int .i64) (.int .i64))) (x0.snd))]), (.ro (.int .i64) (x1)), (.ro (.int .i64) (x2))] =
  (chk (decide (x2.length < (4611686018427387904 : Nat))) (some (leaving x0 x2))).bind (fun y0 => bif y0.snd != (0 : Int) then (some (.tup [(.int .i64 ((0 : Int))), (.int .i64 ((800 : Int)))])) else (bif !capsMay x0 x1 then (some (.tup [(.int .i64 ((0 : Int))), (.int .i64 ((800 : Int)))])) else (f44.l0 k k (x1) ((↑y0.fst.length : Int)) ((0 : Int)) ((0 : Int)) (y0.fst)))) := by kernel_rfl
theorem f44.inl (k : Nat) : InlOk Try.prog (f44.E k) := (inl_cons (by kernel_rfl) (by kernel_rfl) (inl_cons (by kernel_rfl) (by kernel_rfl) (inl_cons (by kernel_rfl) (by kernel_rfl) inl_nil)))
theorem f44.sums (k : Nat) : SumsOk Try.prog (f44.E k) := (sums_cons ok38 (sums_cons ok95 (sums_cons ok115 sums_nil)))
noncomputable def f45.E (k : Nat) : Env := mkEnv tt [(39, S39), (49, S49), (91, S91)] [] [(45, 6, [.kill (rg [(0, 0), (2, 7), (9, 9), (12, 43)]), .tidy])] [] k
noncomputable def f45.code : Go.Code := (Go.Func.body Try.f45).getD .skip
noncomputable def f45.l0 (k n : Nat) (p0 : List Int) (p1 : Int) (p2 : Int) (p3 : List Int) : Option V :=
  atPath (f45.E k) n ⟨[.undef, (.ro (.int .i64) (p0)), .undef, .undef, .undef, .undef, .undef, .undef, (.slw (2097168 : Nat)), .undef, (.int .i64 (p1)), (.int .i64 (p2)), .undef, .undef, .undef, .undef, .undef, .undef, .undef, .undef, .undef, .undef, .undef, .undef, .undef, .undef, .undef, .undef, .undef, .undef, .undef, .undef, .undef, .undef, .undef, .undef, .undef, .undef, .undef, .undef, .undef, .undef, .undef, .undef], [], [((2097168 : Nat), .row (.int .i64) (p3))]⟩ 9 0 45 [.c 1, .c 1, .c 1, .c 1, .c 0, .c 1, .c 0] [] f45.code (finK tt Try.f45)
theorem f45.l0_eq (k n : Nat) (p0 : List Int) (p1 : Int) (p2 : Int) (p3 : List Int) : f45.l0 k (n + 1) p0 p1 p2 p3 =
  bif decide (p2 < (↑p3.length : Int)) then (chk (decide ((0 : Int) ≤ p2 ∧ p2 < (↑p3.length : Int))) (chk (decide ((0 : Int) ≤ rd (Ty.int Go.IntKind.i64) p3 (↑p2.toNat : Int) ∧ rd (Ty.int Go.IntKind.i64) p3 (↑p2.toNat : Int) < (↑p0.length : Int))) (f45.l0 k n (p0) (Go.IntKind.i64.wrap (p1 + rd (Ty.int Go.IntKind.i64) p0 (rd (Ty.int Go.IntKind.i64) p3 (↑p2.toNat : Int)))) (Go.IntKind.i64.wrap (p2 + (1 : Int))) (p3)))) else (some (.tup [(.int .i64 (p1)), (.int .i64 ((0 : Int)))])) := by kernel_rfl
theorem f45.eq (k : Nat) (x0 : Int × List (Int × Int × Int)) (x1 : List Int) (x2 : List Int) : evFn (f45.E k) 9 45 Try.f45 [(.agg [(.int .i64 (x0.fst)), (.ro (.pair (.int .i64) (.pair (.int .i64) (.int .i64))) (x0.snd))]), (.ro (.int .i64) (x1)), (.ro (.int .i64) (x2))] =
  bif !capsMay x0 x1 then (some (.tup [(.int .i64 ((0 : Int))), (.int .i64 ((800 : Int)))])) else ((chk (decide (x2.length < (4611686018427387904 : Nat))) (some (risingB x0.fst none x2))).bind (fun y0 => bif !y0 then (some (.tup [(.int .i64 ((0 : Int))), (.int .i64 ((800 : Int)))])) else ((chk (decide (x2.length < (4611686018427387904 : Nat))) (some (leaving x0 x2))).bind (fun y1 => f45.l0 k k (x1) ((0 : Int)) ((0 : Int)) (y1.fst))))) := by kernel_rfl
theorem f45.inl (k : Nat) : InlOk Try.prog (f45.E k) := inl_nil
theorem f45.sums (k : Nat) : SumsOk Try.prog (f45.E k) := (sums_cons ok39 (sums_cons ok49 (sums_cons ok91 sums_nil)))
end Go.Proofs.Ytiboikgoaihccaa.R
