/-
Texts of package route, put together by program.
-/
import Derived.Test.YtiboikgoaihccaaProg
import Derived.Test.YtiboikgoaihccaaRC
import Derived.Test.YtiboikgoaihccaaTt
import Derived.Test.YtiboikgoaihccaaM2
import Derived.KernelRfl
namespace Go.Proofs.Ytiboikgoaihccaa.R

section
set_option maxRecDepth 100000
set_option linter.unusedVariables false
noncomputable def f123.E (k : Nat) : Env := mkEnv tt [(78, S78), (98, S98), (124, S124), (125, S125), (132, S132), (134, S134), (136, S136), (139, S139)] [(133, Try.f133), (135, Try.f135), (158, Try.f158), (170, Try.f170)] [(123, 7, [.kill (rg [(0, 0), (2, 2), (7, 18), (21, 97)]), .tidy, .tidy]), (133, 3, [.kill (rg [(1, 1), (3, 6), (9, 72)]), .reb 0, .reb 2, .reb 7, .reb 8, .tidy]), (135, 3, [.kill (rg [(1, 4), (6, 7), (11, 28)]), .tidy]), (158, 1, [.kill (rg [(2, 51)]), .tidy])] [(133, 4096, (rg [(0, 0), (2, 2), (7, 18), (21, 63), (65, 97)])), (158, 263872, (rg [(1, 1), (3, 6), (9, 26), (28, 72)])), (135, 4672, (rg [(0, 0), (2, 2), (7, 18), (22, 69), (71, 72), (74, 97)]))] k
noncomputable def f123.code : Go.Code := (Go.Func.body Try.f123).getD .skip
noncomputable def f123.l0 (k n : Nat) (p0 : List Int) (p1 : Int) (p2 : Int) (p3 : Int) (p4 : Int) (p5 : Int) (p6 : List (Int × Int × Int)) (p7 : List Int) (p8 : List Int) (p9 : List Int) (p10 : List Int) (p11 : List Int) (p12 : List Int) : Option V :=
  atPath (f123.E k) n ⟨[.undef, (.ro (.int .i64) (p0)), .undef, (.int .i64 (p1)), (.int .i64 (p2)), (.int .i64 (p3)), (.ptr (1572880 : Nat) ((0 : Nat)) ((0 : Nat))), .undef, .undef, .undef, .undef, .undef, .undef, .undef, .undef, .undef, .undef, .undef, .undef, (.ptr (4980752 : Nat) ((0 : Nat)) ((0 : Nat))), (.int .i64 (p4)), .undef, .undef, .undef, .undef, .undef, .undef, .undef, .undef, .undef, .undef, .undef, .undef, .undef, .undef, .undef, .undef, .undef, .undef, .undef, .undef, .undef, .undef, .undef, .undef, .undef, .undef, .undef, .undef, .undef, .undef, .undef, .undef, .undef, .undef, .undef, .undef, .undef, .undef, .undef, .undef, .undef, .undef, .undef, .undef, .undef, .undef, .undef, .undef, .undef, .undef, .undef, .undef, .undef, .undef, .undef, .undef, .undef, .undef, .undef, .undef, .undef, .undef, .undef, .undef, .undef, .undef, .undef, .undef, .undef, .undef, .undef, .undef, .undef, .undef, .undef, .undef, .undef], [], [((1572880 : Nat), .box [(.int .i64 (p5)), (.ro (.pair (.int .i64) (.pair (.int .i64) (.int .i64))) (p6))]), ((4980752 : Nat), .box [(.slw (1305674252336 : Nat)), (.slw (1305674252400 : Nat)), (.slw (1305674252464 : Nat)), (.slw (1305674252528 : Nat)), (.ro (.int .i64) (p0)), (.slw (1305674252656 : Nat)), (.slw (1305674252720 : Nat))]), ((1305674252336 : Nat), .row (.int .i64) (p7)), ((1305674252400 : Nat), .row (.int .i64) (p8)), ((1305674252464 : Nat), .row (.int .i64) (p9)), ((1305674252528 : Nat), .row (.int .i64) (p10)), ((1305674252656 : Nat), .row (.int .i64) (p11)), ((1305674252720 : Nat), .row (.int .i64) (p12))]⟩ 9 0 123 [.c 1, .c 1, .c 1, .c 1, .c 1, .c 1, .c 0, .c 0] [] f123.code (finK tt Try.f123)
noncomputable def f123.l1 (k n m0 : Nat) (p0 : Int) (p1 : List Int) (p2 : Int) (p3 : Int) (p4 : Int) (p5 : List Int) (p6 : List Int) (p7 : List Int) (p8 : List Int) (p9 : List Int) (p10 : List Int) (p11 : List Int) (p12 : List Int) (p13 : Int) (p14 : List (Int × Int × Int)) : Option V :=
  atPath (f123.E k) n ⟨[(.ptr (16 : Nat) ((0 : Nat)) ((0 : Nat))), .undef, (.int .i64 (p0)), .undef, .undef, .undef, .undef, (.slw (1835024 : Nat)), (.slw (2097168 : Nat)), .undef, .undef, .undef, .undef, .undef, .undef, .undef, .undef, .undef, .undef, .undef, .undef, .undef, .undef, .undef, .undef, .undef, .undef, .undef, .undef, .undef, .undef, .undef, .undef, .undef, .undef, .undef, .undef, .undef, .undef, .undef, .undef, .undef, .undef, .undef, .undef, .undef, .undef, .undef, .undef, .undef, .undef, .undef, .undef, .undef, .undef, .undef, .undef, .undef, .undef, .undef, .undef, .undef, .undef, .undef, .undef, .undef, .undef, .undef, .undef, .undef, .undef, .undef, .undef], [[.undef, (.ro (.int .i64) (p1)), .undef, (.int .i64 (p2)), (.int .i64 (p0)), (.int .i64 (p3)), (.ptr (1075314704 : Nat) ((0 : Nat)) ((0 : Nat))), .undef, .undef, .undef, .undef, .undef, .undef, .undef, .undef, .undef, .undef, .undef, .undef, (.ptr (16 : Nat) ((0 : Nat)) ((0 : Nat))), (.int .i64 (p4)), .undef, .undef, .undef, .undef, .undef, .undef, .undef, .undef, .undef, .undef, .undef, .undef, .undef, .undef, .undef, .undef, .undef, .undef, .undef, .undef, .undef, .undef, .undef, .undef, .undef, .undef, .undef, .undef, .undef, .undef, .undef, .undef, .undef, .undef, .undef, .undef, .undef, .undef, .undef, .undef, .undef, .undef, .undef, .undef, .undef, .undef, .undef, .undef, .undef, .undef, .undef, .undef, .undef, .undef, .undef, .undef, .undef, .undef, .undef, .undef, .undef, .undef, .undef, .undef, .undef, .undef, .undef, .undef, .undef, .undef, .undef, .undef, .undef, .undef, .undef, .undef, .undef]], [((16 : Nat), .box [(.slw (4194352 : Nat)), (.slw (4194416 : Nat)), (.slw (4194480 : Nat)), (.slw (4194544 : Nat)), (.ro (.int .i64) (p1)), (.slw (4194672 : Nat)), (.slw (4194736 : Nat))]), ((1835024 : Nat), .row (.int .i64) (p5)), ((2097168 : Nat), .row (.int .i64) (p6)), ((4194352 : Nat), .row (.int .i64) (p7)), ((4194416 : Nat), .row (.int .i64) (p8)), ((4194480 : Nat), .row (.int .i64) (p9)), ((4194544 : Nat), .row (.int .i64) (p10)), ((4194672 : Nat), .row (.int .i64) (p11)), ((4194736 : Nat), .row (.int .i64) (p12)), ((1075314704 : Nat), .box [(.int .i64 (p13)), (.ro (.pair (.int .i64) (.pair (.int .i64) (.int .i64))) (p14))])]⟩ 9 0 123 [.c 1, .c 1, .c 1, .c 1, .c 1, .c 1, .c 0, .c 0, .c 0, .c 1, .c 0, .c 0, .call 3 133, .c 1, .c 1, .c 1, .c 0] [m0] f123.code (finK tt Try.f123)
noncomputable def f123.l2 (k n m0 : Nat) (p0 : Int) (p1 : Int) (p2 : List Int) (p3 : Int) (p4 : Int) (p5 : Int) (p6 : Int) (p7 : Int) (p8 : List Int) (p9 : List Int) (p10 : List Int) (p11 : List Int) (p12 : List Int) (p13 : List Int) (p14 : List Int) (p15 : List Int) (p16 : Int) (p17 : List (Int × Int × Int)) : Option V :=
  atPath (f123.E k) n ⟨[(.ptr (16 : Nat) ((0 : Nat)) ((0 : Nat))), .undef, .undef, .undef, .undef, (.slw (1310736 : Nat)), .undef, .undef, (.slw (2097168 : Nat)), (.int .i64 (p0)), (.int .i64 (p1)), .undef, .undef, .undef, .undef, .undef, .undef, .undef, .undef, .undef, .undef, .undef, .undef, .undef, .undef, .undef, .undef, .undef, .undef], [[.undef, (.ro (.int .i64) (p2)), .undef, (.int .i64 (p3)), (.int .i64 (p4)), (.int .i64 (p5)), (.ptr (1075314704 : Nat) ((0 : Nat)) ((0 : Nat))), .undef, .undef, .undef, .undef, .undef, .undef, .undef, .undef, .undef, .undef, .undef, .undef, (.ptr (16 : Nat) ((0 : Nat)) ((0 : Nat))), (.int .i64 (p6)), (.slw (2097168 : Nat)), .undef, .undef, .undef, .undef, .undef, .undef, .undef, .undef, .undef, .undef, .undef, .undef, .undef, .undef, .undef, .undef, .undef, .undef, .undef, .undef, .undef, .undef, .undef, .undef, .undef, .undef, .undef, .undef, .undef, .undef, .undef, .undef, .undef, .undef, .undef, .undef, .undef, .undef, .undef, .undef, .undef, .undef, .undef, .undef, .undef, .undef, .undef, .undef, (.int .i64 (p7)), .undef, .undef, .undef, .undef, .undef, .undef, .undef, .undef, .undef, .undef, .undef, .undef, .undef, .undef, .undef, .undef, .undef, .undef, .undef, .undef, .undef, .undef, .undef, .undef, .undef, .undef, .undef]], [((16 : Nat), .box [(.slw (4194352 : Nat)), (.slw (4194416 : Nat)), (.slw (4194480 : Nat)), (.slw (4194544 : Nat)), (.ro (.int .i64) (p2)), (.slw (4194672 : Nat)), (.slw (4194736 : Nat))]), ((1310736 : Nat), .row (.int .i64) (p8)), ((2097168 : Nat), .row (.int .i64) (p9)), ((4194352 : Nat), .row (.int .i64) (p10)), ((4194416 : Nat), .row (.int .i64) (p11)), ((4194480 : Nat), .row (.int .i64) (p12)), ((4194544 : Nat), .row (.int .i64) (p13)), ((4194672 : Nat), .row (.int .i64) (p14)), ((4194736 : Nat), .row (.int .i64) (p15)), ((1075314704 : Nat), .box [(.int .i64 (p16)), (.ro (.pair (.int .i64) (.pair (.int .i64) (.int .i64))) (p17))])]⟩ 9 0 123 [.c 1, .c 1, .c 1, .c 1, .c 1, .c 1, .c 0, .c 0, .c 0, .c 1, .c 0, .c 1, .c 1, .c 0, .call 5 135, .c 1, .c 1, .c 0, .c 1, .c 0] [m0] f123.code (finK tt Try.f123)
noncomputable def f123.l3 (k n m0 m1 : Nat) (p0 : Int) (p1 : Int) (p2 : List Int) (p3 : Int) (p4 : Int) (p5 : Int) (p6 : List Int) (p7 : List Int) (p8 : List Int) (p9 : List Int) (p10 : List Int) (p11 : List Int) (p12 : List Int) (p13 : List Int) (p14 : Int) (p15 : List (Int × Int × Int)) : Option V :=
  atPath (f123.E k) n ⟨[(.ptr (16 : Nat) ((0 : Nat)) ((0 : Nat))), (.int .i64 (p0)), .undef, .undef, .undef, .undef, .undef, .undef, .undef, .undef, .undef, .undef, .undef, .undef, .undef, .undef, .undef, .undef, .undef, .undef, .undef, .undef, .undef, .undef, .undef, .undef, .undef, .undef, .undef, .undef, .undef, .undef, .undef, .undef, .undef, .undef, .undef, .undef, .undef, .undef, .undef, .undef, .undef, .undef, .undef, .undef, .undef, .undef, .undef, .undef, .undef, .undef], [[(.ptr (16 : Nat) ((0 : Nat)) ((0 : Nat))), .undef, (.int .i64 (p1)), .undef, .undef, .undef, .undef, (.slw (1075576848 : Nat)), (.slw (1075838992 : Nat)), .undef, .undef, .undef, .undef, .undef, .undef, .undef, .undef, .undef, .undef, .undef, .undef, .undef, .undef, .undef, .undef, .undef, .undef, .undef, .undef, .undef, .undef, .undef, .undef, .undef, .undef, .undef, .undef, .undef, .undef, .undef, .undef, .undef, .undef, .undef, .undef, .undef, .undef, .undef, .undef, .undef, .undef, .undef, .undef, .undef, .undef, .undef, .undef, .undef, .undef, .undef, .undef, .undef, .undef, .undef, .undef, .undef, .undef, .undef, .undef, .undef, .undef, .undef, .undef], [.undef, (.ro (.int .i64) (p2)), .undef, (.int .i64 (p3)), (.int .i64 (p1)), (.int .i64 (p4)), (.ptr (2149056528 : Nat) ((0 : Nat)) ((0 : Nat))), .undef, .undef, .undef, .undef, .undef, .undef, .undef, .undef, .undef, .undef, .undef, .undef, (.ptr (16 : Nat) ((0 : Nat)) ((0 : Nat))), (.int .i64 (p5)), .undef, .undef, .undef, .undef, .undef, .undef, .undef, .undef, .undef, .undef, .undef, .undef, .undef, .undef, .undef, .undef, .undef, .undef, .undef, .undef, .undef, .undef, .undef, .undef, .undef, .undef, .undef, .undef, .undef, .undef, .undef, .undef, .undef, .undef, .undef, .undef, .undef, .undef, .undef, .undef, .undef, .undef, .undef, .undef, .undef, .undef, .undef, .undef, .undef, .undef, .undef, .undef, .undef, .undef, .undef, .undef, .undef, .undef, .undef, .undef, .undef, .undef, .undef, .undef, .undef, .undef, .undef, .undef, .undef, .undef, .undef, .undef, .undef, .undef, .undef, .undef, .undef]], [((16 : Nat), .box [(.slw (4194352 : Nat)), (.slw (4194416 : Nat)), (.slw (4194480 : Nat)), (.slw (4194544 : Nat)), (.ro (.int .i64) (p2)), (.slw (4194672 : Nat)), (.slw (4194736 : Nat))]), ((4194352 : Nat), .row (.int .i64) (p6)), ((4194416 : Nat), .row (.int .i64) (p7)), ((4194480 : Nat), .row (.int .i64) (p8)), ((4194544 : Nat), .row (.int .i64) (p9)), ((4194672 : Nat), .row (.int .i64) (p10)), ((4194736 : Nat), .row (.int .i64) (p11)), ((1075576848 : Nat), .row (.int .i64) (p12)), ((1075838992 : Nat), .row (.int .i64) (p13)), ((2149056528 : Nat), .box [(.int .i64 (p14)), (.ro (.pair (.int .i64) (.pair (.int .i64) (.int .i64))) (p15))])]⟩ 9 0 123 [.c 1, .c 1, .c 1, .c 1, .c 1, .c 1, .c 0, .c 0, .c 0, .c 1, .c 0, .c 0, .call 3 133, .c 1, .c 1, .c 1, .c 0, .c 0, .c 0, .c 1, .c 1, .c 0, .c 0, .call 2 158, .c 1, .c 0, .c 0] [m0, m1] f123.code (finK tt Try.f123)
theorem f123.l0_eq (k n : Nat) (p0 : List Int) (p1 : Int) (p2 : Int) (p3 : Int) (p4 : Int) (p5 : Int) (p6 : List (Int × Int × Int)) (p7 : List Int) (p8 : List Int) (p9 : List Int) (p10 : List Int) (p11 : List Int) (p12 : List Int) : f123.l0 k (n + 1) p0 p1 p2 p3 p4 p5 p6 p7 p8 p9 p10 p11 p12 =
  bif decide (p4 < p3) then (f123.l1 k k n (p2) (p0) (p1) (p3) (p4) ([]) ([p1]) (p7) (p8) (p9) (p10) (p11) (p12) (p5) (p6)) else (some (.tup [(.own (.int .i64) (p11)), (.int .i64 (p4)), (.int .i64 ((0 : Int)))])) := by kernel_rfl
theorem f123.l1_eq (k n m0 : Nat) (p0 : Int) (p1 : List Int) (p2 : Int) (p3 : Int) (p4 : Int) (p5 : List Int) (p6 : List Int) (p7 : List Int) (p8 : List Int) (p9 : List Int) (p10 : List Int) (p11 : List Int) (p12 : List Int) (p13 : Int) (p14 : List (Int × Int × Int)) : f123.l1 k (n + 1) m0 p0 p1 p2 p3 p4 p5 p6 p7 p8 p9 p10 p11 p12 p13 p14 =
  chk (decide ((0 : Int) ≤ Go.IntKind.i64.wrap ((↑p6.length : Int) - (1 : Int)) ∧ Go.IntKind.i64.wrap ((↑p6.length : Int) - (1 : Int)) < (↑p6.length : Int))) (bif rd (Ty.int Go.IntKind.i64) p6 (↑(Go.IntKind.i64.wrap ((↑p6.length : Int) - (1 : Int))).toNat : Int) == p0 then (bif (↑p5.length : Int) == (0 : Int) then (some (.tup [(.own (.int .i64) (p11)), (.int .i64 (p4)), (.int .i64 ((0 : Int)))])) else (f123.l2 k k m0 ((↑p5.length : Int)) ((0 : Int)) (p1) (p2) (p0) (p3) (p4) (Go.IntKind.i64.wrap (p3 - p4)) ([]) (p5) (p7) (p8) (p9) (p10) (p11) (p12) (p13) (p14))) else (f123.l3 k k m0 n (rd (Ty.int Go.IntKind.i64) p6 (↑(Go.IntKind.i64.wrap ((↑p6.length : Int) - (1 : Int))).toNat : Int)) (p0) (p1) (p2) (p3) (p4) (p7) (p8) (p9) (p10) (p11) (p12) (p5) (p6) (p13) (p14))) := by kernel_rfl
theorem f123.l2_eq (k n m0 : Nat) (p0 : Int) (p1 : Int) (p2 : List Int) (p3 : Int) (p4 : Int) (p5 : Int) (p6 : Int) (p7 : Int) (p8 : List Int) (p9 : List Int) (p10 : List Int) (p11 : List Int) (p12 : List Int) (p13 : List Int) (p14 : List Int) (p15 : List Int) (p16 : Int) (p17 : List (Int × Int × Int)) : f123.l2 k (n + 1) m0 p0 p1 p2 p3 p4 p5 p6 p7 p8 p9 p10 p11 p12 p13 p14 p15 p16 p17 =
  bif decide (p1 < p0) then (chk (decide ((0 : Int) ≤ p1 ∧ p1 < (↑p9.length : Int))) ((chk (decide (p2.length ≤ (16 : Nat) ∧ p14.length = p2.length) && (arcIn p2.length (rd (Ty.int Go.IntKind.i64) p9 (↑p1.toNat : Int)) && rateB (roomA p2 p14 (rd (Ty.int Go.IntKind.i64) p9 (↑p1.toNat : Int))))) (some (roomA p2 p14 (rd (Ty.int Go.IntKind.i64) p9 (↑p1.toNat : Int))))).bind (fun y0 => chk (decide ((p8 ++ [y0]).length * (8 : Nat) ≤ (140737488355328 : Nat))) (f123.l2 k n m0 (p0) (Go.IntKind.i64.wrap (p1 + (1 : Int))) (p2) (p3) (p4) (p5) (p6) (p7) (p8 ++ [y0]) (p9) (p10) (p11) (p12) (p13) (p14) (p15) (p16) (p17))))) else ((chk (decide (p8.length < (4611686018427387904 : Nat))) (some (List.foldl min p7 p8))).bind (fun y0 => both (f123.l0 k m0 (p2) (p3) (p4) (p5) (Go.IntKind.i64.wrap (p6 + y0)) (p16) (p17) (p10) (p11) (p12) (p13) ((moveOf (p16, p17) p2 p14 y0 p9).fst) (p15)) (both (f123.l0 k m0 (p2) (p3) (p4) (p5) (Go.IntKind.i64.wrap (p6 + y0)) (p16) (p17) (p10) (p11) (p12) (p13) ((moveOf (p16, p17) p2 p14 y0 p9).fst) (p15)) (both (f123.l0 k m0 (p2) (p3) (p4) (p5) (Go.IntKind.i64.wrap (p6 + y0)) (p16) (p17) (p10) (p11) (p12) (p13) ((moveOf (p16, p17) p2 p14 y0 p9).fst) (p15)) (f123.l0 k m0 (p2) (p3) (p4) (p5) (Go.IntKind.i64.wrap (p6 + y0)) (p16) (p17) (p10) (p11) (p12) (p13) ((moveOf (p16, p17) p2 p14 y0 p9).fst) (p15)))))) := by kernel_rfl
theorem f123.l3_eq (k n m0 m1 : Nat) (p0 : Int) (p1 : Int) (p2 : List Int) (p3 : Int) (p4 : Int) (p5 : Int) (p6 : List Int) (p7 : List Int) (p8 : List Int) (p9 : List Int) (p10 : List Int) (p11 : List Int) (p12 : List Int) (p13 : List Int) (p14 : Int) (p15 : List (Int × Int × Int)) : f123.l3 k (n + 1) m0 m1 p0 p1 p2 p3 p4 p5 p6 p7 p8 p9 p10 p11 p12 p13 p14 p15 =
  chk (decide ((0 : Int) ≤ p0 ∧ p0 < (↑p11.length : Int))) (chk (decide ((0 : Int) ≤ Go.IntKind.i64.wrap (p0 + (1 : Int)) ∧ Go.IntKind.i64.wrap (p0 + (1 : Int)) < (↑p6.length : Int))) (bif decide (rd (Ty.int Go.IntKind.i64) p11 (↑p0.toNat : Int) < rd (Ty.int Go.IntKind.i64) p6 (↑(Go.IntKind.i64.wrap (p0 + (1 : Int))).toNat : Int)) then (chk (decide ((0 : Int) ≤ p0 ∧ p0 < (↑p11.length : Int))) (chk (decide ((0 : Int) ≤ rd (Ty.int Go.IntKind.i64) p11 (↑p0.toNat : Int) ∧ rd (Ty.int Go.IntKind.i64) p11 (↑p0.toNat : Int) < (↑p7.length : Int))) (chk (decide ((0 : Int) ≤ rd (Ty.int Go.IntKind.i64) p7 (↑(Int.toNat (rd (Ty.int Go.IntKind.i64) p11 (↑p0.toNat : Int))) : Int) ∧ rd (Ty.int Go.IntKind.i64) p7 (↑(Int.toNat (rd (Ty.int Go.IntKind.i64) p11 (↑p0.toNat : Int))) : Int) < (↑p8.length : Int))) (chk (decide ((0 : Int) ≤ rd (Ty.int Go.IntKind.i64) p8 (↑(Int.toNat (rd (Ty.int Go.IntKind.i64) p7 (↑(Int.toNat (rd (Ty.int Go.IntKind.i64) p11 (↑p0.toNat : Int))) : Int))) : Int) ∧ rd (Ty.int Go.IntKind.i64) p8 (↑(Int.toNat (rd (Ty.int Go.IntKind.i64) p7 (↑(Int.toNat (rd (Ty.int Go.IntKind.i64) p11 (↑p0.toNat : Int))) : Int))) : Int) < (↑p9.length : Int))) (chk (decide ((0 : Int) ≤ p0 ∧ p0 < (↑p9.length : Int))) (bif rd (Ty.int Go.IntKind.i64) p9 (↑(Int.toNat (rd (Ty.int Go.IntKind.i64) p8 (↑(Int.toNat (rd (Ty.int Go.IntKind.i64) p7 (↑(Int.toNat (rd (Ty.int Go.IntKind.i64) p11 (↑p0.toNat : Int))) : Int))) : Int))) : Int) == Go.IntKind.i64.wrap (rd (Ty.int Go.IntKind.i64) p9 (↑p0.toNat : Int) + (1 : Int)) then ((chk (decide (p2.length ≤ (16 : Nat) ∧ p10.length = p2.length) && (arcIn p2.length (rd (Ty.int Go.IntKind.i64) p7 (↑(Int.toNat (rd (Ty.int Go.IntKind.i64) p11 (↑p0.toNat : Int))) : Int)) && rateB (roomA p2 p10 (rd (Ty.int Go.IntKind.i64) p7 (↑(Int.toNat (rd (Ty.int Go.IntKind.i64) p11 (↑p0.toNat : Int))) : Int))))) (some (roomA p2 p10 (rd (Ty.int Go.IntKind.i64) p7 (↑(Int.toNat (rd (Ty.int Go.IntKind.i64) p11 (↑p0.toNat : Int))) : Int))))).bind (fun y0 => bif decide (y0 > (0 : Int)) then (both (both (chk (decide ((p12 ++ [rd (Ty.int Go.IntKind.i64) p7 (↑(Int.toNat (rd (Ty.int Go.IntKind.i64) p11 (↑p0.toNat : Int))) : Int)]).length * (8 : Nat) ≤ (140737488355328 : Nat))) (chk (decide ((0 : Int) ≤ rd (Ty.int Go.IntKind.i64) p7 (↑(Int.toNat (rd (Ty.int Go.IntKind.i64) p11 (↑p0.toNat : Int))) : Int) ∧ rd (Ty.int Go.IntKind.i64) p7 (↑(Int.toNat (rd (Ty.int Go.IntKind.i64) p11 (↑p0.toNat : Int))) : Int) < (↑p8.length : Int))) (chk (decide ((p13 ++ [rd (Ty.int Go.IntKind.i64) p8 (↑(Int.toNat (rd (Ty.int Go.IntKind.i64) p7 (↑(Int.toNat (rd (Ty.int Go.IntKind.i64) p11 (↑p0.toNat : Int))) : Int))) : Int)]).length * (8 : Nat) ≤ (140737488355328 : Nat))) (f123.l1 k m1 m0 (p1) (p2) (p3) (p4) (p5) (p12 ++ [rd (Ty.int Go.IntKind.i64) p7 (↑(Int.toNat (rd (Ty.int Go.IntKind.i64) p11 (↑p0.toNat : Int))) : Int)]) (p13 ++ [rd (Ty.int Go.IntKind.i64) p8 (↑(Int.toNat (rd (Ty.int Go.IntKind.i64) p7 (↑(Int.toNat (rd (Ty.int Go.IntKind.i64) p11 (↑p0.toNat : Int))) : Int))) : Int)]) (p6) (p7) (p8) (p9) (p10) (p11) (p14) (p15))))) (both (chk (decide ((p12 ++ [rd (Ty.int Go.IntKind.i64) p7 (↑(Int.toNat (rd (Ty.int Go.IntKind.i64) p11 (↑p0.toNat : Int))) : Int)]).length * (8 : Nat) ≤ (140737488355328 : Nat))) (chk (decide ((0 : Int) ≤ rd (Ty.int Go.IntKind.i64) p7 (↑(Int.toNat (rd (Ty.int Go.IntKind.i64) p11 (↑p0.toNat : Int))) : Int) ∧ rd (Ty.int Go.IntKind.i64) p7 (↑(Int.toNat (rd (Ty.int Go.IntKind.i64) p11 (↑p0.toNat : Int))) : Int) < (↑p8.length : Int))) (chk (decide ((p13 ++ [rd (Ty.int Go.IntKind.i64) p8 (↑(Int.toNat (rd (Ty.int Go.IntKind.i64) p7 (↑(Int.toNat (rd (Ty.int Go.IntKind.i64) p11 (↑p0.toNat : Int))) : Int))) : Int)]).length * (8 : Nat) ≤ (140737488355328 : Nat))) (f123.l1 k m1 m0 (p1) (p2) (p3) (p4) (p5) (p12 ++ [rd (Ty.int Go.IntKind.i64) p7 (↑(Int.toNat (rd (Ty.int Go.IntKind.i64) p11 (↑p0.toNat : Int))) : Int)]) (p13 ++ [rd (Ty.int Go.IntKind.i64) p8 (↑(Int.toNat (rd (Ty.int Go.IntKind.i64) p7 (↑(Int.toNat (rd (Ty.int Go.IntKind.i64) p11 (↑p0.toNat : Int))) : Int))) : Int)]) (p6) (p7) (p8) (p9) (p10) (p11) (p14) (p15))))) (both (chk (decide ((p12 ++ [rd (Ty.int Go.IntKind.i64) p7 (↑(Int.toNat (rd (Ty.int Go.IntKind.i64) p11 (↑p0.toNat : Int))) : Int)]).length * (8 : Nat) ≤ (140737488355328 : Nat))) (chk (decide ((0 : Int) ≤ rd (Ty.int Go.IntKind.i64) p7 (↑(Int.toNat (rd (Ty.int Go.IntKind.i64) p11 (↑p0.toNat : Int))) : Int) ∧ rd (Ty.int Go.IntKind.i64) p7 (↑(Int.toNat (rd (Ty.int Go.IntKind.i64) p11 (↑p0.toNat : Int))) : Int) < (↑p8.length : Int))) (chk (decide ((p13 ++ [rd (Ty.int Go.IntKind.i64) p8 (↑(Int.toNat (rd (Ty.int Go.IntKind.i64) p7 (↑(Int.toNat (rd (Ty.int Go.IntKind.i64) p11 (↑p0.toNat : Int))) : Int))) : Int)]).length * (8 : Nat) ≤ (140737488355328 : Nat))) (f123.l1 k m1 m0 (p1) (p2) (p3) (p4) (p5) (p12 ++ [rd (Ty.int Go.IntKind.i64) p7 (↑(Int.toNat (rd (Ty.int Go.IntKind.i64) p11 (↑p0.toNat : Int))) : Int)]) (p13 ++ [rd (Ty.int Go.IntKind.i64) p8 (↑(Int.toNat (rd (Ty.int Go.IntKind.i64) p7 (↑(Int.toNat (rd (Ty.int Go.IntKind.i64) p11 (↑p0.toNat : Int))) : Int))) : Int)]) (p6) (p7) (p8) (p9) (p10) (p11) (p14) (p15))))) (both (chk (decide ((p12 ++ [rd (Ty.int Go.IntKind.i64) p7 (↑(Int.toNat (rd (Ty.int Go.IntKind.i64) p11 (↑p0.toNat : Int))) : Int)]).length * (8 : Nat) ≤ (140737488355328 : Nat))) (chk (decide ((0 : Int) ≤ rd (Ty.int Go.IntKind.i64) p7 (↑(Int.toNat (rd (Ty.int Go.IntKind.i64) p11 (↑p0.toNat : Int))) : Int) ∧ rd (Ty.int Go.IntKind.i64) p7 (↑(Int.toNat (rd (Ty.int Go.IntKind.i64) p11 (↑p0.toNat : Int))) : Int) < (↑p8.length : Int))) (chk (decide ((p13 ++ [rd (Ty.int Go.IntKind.i64) p8 (↑(Int.toNat (rd (Ty.int Go.IntKind.i64) p7 (↑(Int.toNat (rd (Ty.int Go.IntKind.i64) p11 (↑p0.toNat : Int))) : Int))) : Int)]).length * (8 : Nat) ≤ (140737488355328 : Nat))) (f123.l1 k m1 m0 (p1) (p2) (p3) (p4) (p5) (p12 ++ [rd (Ty.int Go.IntKind.i64) p7 (↑(Int.toNat (rd (Ty.int Go.IntKind.i64) p11 (↑p0.toNat : Int))) : Int)]) (p13 ++ [rd (Ty.int Go.IntKind.i64) p8 (↑(Int.toNat (rd (Ty.int Go.IntKind.i64) p7 (↑(Int.toNat (rd (Ty.int Go.IntKind.i64) p11 (↑p0.toNat : Int))) : Int))) : Int)]) (p6) (p7) (p8) (p9) (p10) (p11) (p14) (p15))))) (both (chk (decide ((p12 ++ [rd (Ty.int Go.IntKind.i64) p7 (↑(Int.toNat (rd (Ty.int Go.IntKind.i64) p11 (↑p0.toNat : Int))) : Int)]).length * (8 : Nat) ≤ (140737488355328 : Nat))) (chk (decide ((0 : Int) ≤ rd (Ty.int Go.IntKind.i64) p7 (↑(Int.toNat (rd (Ty.int Go.IntKind.i64) p11 (↑p0.toNat : Int))) : Int) ∧ rd (Ty.int Go.IntKind.i64) p7 (↑(Int.toNat (rd (Ty.int Go.IntKind.i64) p11 (↑p0.toNat : Int))) : Int) < (↑p8.length : Int))) (chk (decide ((p13 ++ [rd (Ty.int Go.IntKind.i64) p8 (↑(Int.toNat (rd (Ty.int Go.IntKind.i64) p7 (↑(Int.toNat (rd (Ty.int Go.IntKind.i64) p11 (↑p0.toNat : Int))) : Int))) : Int)]).length * (8 : Nat) ≤ (140737488355328 : Nat))) (f123.l1 k m1 m0 (p1) (p2) (p3) (p4) (p5) (p12 ++ [rd (Ty.int Go.IntKind.i64) p7 (↑(Int.toNat (rd (Ty.int Go.IntKind.i64) p11 (↑p0.toNat : Int))) : Int)]) (p13 ++ [rd (Ty.int Go.IntKind.i64) p8 (↑(Int.toNat (rd (Ty.int Go.IntKind.i64) p7 (↑(Int.toNat (rd (Ty.int Go.IntKind.i64) p11 (↑p0.toNat : Int))) : Int))) : Int)]) (p6) (p7) (p8) (p9) (p10) (p11) (p14) (p15))))) (chk (decide ((0 : Int) ≤ rd (Ty.int Go.IntKind.i64) p7 (↑(Int.toNat (rd (Ty.int Go.IntKind.i64) p11 (↑p0.toNat : Int))) : Int) ∧ rd (Ty.int Go.IntKind.i64) p7 (↑(Int.toNat (rd (Ty.int Go.IntKind.i64) p11 (↑p0.toNat : Int))) : Int) < (↑p8.length : Int))) (both (chk (decide ((p12 ++ [rd (Ty.int Go.IntKind.i64) p7 (↑(Int.toNat (rd (Ty.int Go.IntKind.i64) p11 (↑p0.toNat : Int))) : Int)]).length * (8 : Nat) ≤ (140737488355328 : Nat))) (chk (decide ((p13 ++ [rd (Ty.int Go.IntKind.i64) p8 (↑(Int.toNat (rd (Ty.int Go.IntKind.i64) p7 (↑(Int.toNat (rd (Ty.int Go.IntKind.i64) p11 (↑p0.toNat : Int))) : Int))) : Int)]).length * (8 : Nat) ≤ (140737488355328 : Nat))) (f123.l1 k m1 m0 (p1) (p2) (p3) (p4) (p5) (p12 ++ [rd (Ty.int Go.IntKind.i64) p7 (↑(Int.toNat (rd (Ty.int Go.IntKind.i64) p11 (↑p0.toNat : Int))) : Int)]) (p13 ++ [rd (Ty.int Go.IntKind.i64) p8 (↑(Int.toNat (rd (Ty.int Go.IntKind.i64) p7 (↑(Int.toNat (rd (Ty.int Go.IntKind.i64) p11 (↑p0.toNat : Int))) : Int))) : Int)]) (p6) (p7) (p8) (p9) (p10) (p11) (p14) (p15)))) (both (chk (decide ((p12 ++ [rd (Ty.int Go.IntKind.i64) p7 (↑(Int.toNat (rd (Ty.int Go.IntKind.i64) p11 (↑p0.toNat : Int))) : Int)]).length * (8 : Nat) ≤ (140737488355328 : Nat))) (chk (decide ((p13 ++ [rd (Ty.int Go.IntKind.i64) p8 (↑(Int.toNat (rd (Ty.int Go.IntKind.i64) p7 (↑(Int.toNat (rd (Ty.int Go.IntKind.i64) p11 (↑p0.toNat : Int))) : Int))) : Int)]).length * (8 : Nat) ≤ (140737488355328 : Nat))) (f123.l1 k m1 m0 (p1) (p2) (p3) (p4) (p5) (p12 ++ [rd (Ty.int Go.IntKind.i64) p7 (↑(Int.toNat (rd (Ty.int Go.IntKind.i64) p11 (↑p0.toNat : Int))) : Int)]) (p13 ++ [rd (Ty.int Go.IntKind.i64) p8 (↑(Int.toNat (rd (Ty.int Go.IntKind.i64) p7 (↑(Int.toNat (rd (Ty.int Go.IntKind.i64) p11 (↑p0.toNat : Int))) : Int))) : Int)]) (p6) (p7) (p8) (p9) (p10) (p11) (p14) (p15)))) (chk (decide ((p12 ++ [rd (Ty.int Go.IntKind.i64) p7 (↑(Int.toNat (rd (Ty.int Go.IntKind.i64) p11 (↑p0.toNat : Int))) : Int)]).length * (8 : Nat) ≤ (140737488355328 : Nat))) (chk (decide ((p13 ++ [rd (Ty.int Go.IntKind.i64) p8 (↑(Int.toNat (rd (Ty.int Go.IntKind.i64) p7 (↑(Int.toNat (rd (Ty.int Go.IntKind.i64) p11 (↑p0.toNat : Int))) : Int))) : Int)]).length * (8 : Nat) ≤ (140737488355328 : Nat))) (f123.l1 k m1 m0 (p1) (p2) (p3) (p4) (p5) (p12 ++ [rd (Ty.int Go.IntKind.i64) p7 (↑(Int.toNat (rd (Ty.int Go.IntKind.i64) p11 (↑p0.toNat : Int))) : Int)]) (p13 ++ [rd (Ty.int Go.IntKind.i64) p8 (↑(Int.toNat (rd (Ty.int Go.IntKind.i64) p7 (↑(Int.toNat (rd (Ty.int Go.IntKind.i64) p11 (↑p0.toNat : Int))) : Int))) : Int)]) (p6) (p7) (p8) (p9) (p10) (p11) (p14) (p15)))))))))))) (both (both (chk (decide ((p12 ++ [rd (Ty.int Go.IntKind.i64) p7 (↑(Int.toNat (rd (Ty.int Go.IntKind.i64) p11 (↑p0.toNat : Int))) : Int)]).length * (8 : Nat) ≤ (140737488355328 : Nat))) (chk (decide ((0 : Int) ≤ rd (Ty.int Go.IntKind.i64) p7 (↑(Int.toNat (rd (Ty.int Go.IntKind.i64) p11 (↑p0.toNat : Int))) : Int) ∧ rd (Ty.int Go.IntKind.i64) p7 (↑(Int.toNat (rd (Ty.int Go.IntKind.i64) p11 (↑p0.toNat : Int))) : Int) < (↑p8.length : Int))) (chk (decide ((p13 ++ [rd (Ty.int Go.IntKind.i64) p8 (↑(Int.toNat (rd (Ty.int Go.IntKind.i64) p7 (↑(Int.toNat (rd (Ty.int Go.IntKind.i64) p11 (↑p0.toNat : Int))) : Int))) : Int)]).length * (8 : Nat) ≤ (140737488355328 : Nat))) (f123.l1 k m1 m0 (p1) (p2) (p3) (p4) (p5) (p12 ++ [rd (Ty.int Go.IntKind.i64) p7 (↑(Int.toNat (rd (Ty.int Go.IntKind.i64) p11 (↑p0.toNat : Int))) : Int)]) (p13 ++ [rd (Ty.int Go.IntKind.i64) p8 (↑(Int.toNat (rd (Ty.int Go.IntKind.i64) p7 (↑(Int.toNat (rd (Ty.int Go.IntKind.i64) p11 (↑p0.toNat : Int))) : Int))) : Int)]) (p6) (p7) (p8) (p9) (p10) (p11) (p14) (p15))))) (both (chk (decide ((p12 ++ [rd (Ty.int Go.IntKind.i64) p7 (↑(Int.toNat (rd (Ty.int Go.IntKind.i64) p11 (↑p0.toNat : Int))) : Int)]).length * (8 : Nat) ≤ (140737488355328 : Nat))) (chk (decide ((0 : Int) ≤ rd (Ty.int Go.IntKind.i64) p7 (↑(Int.toNat (rd (Ty.int Go.IntKind.i64) p11 (↑p0.toNat : Int))) : Int) ∧ rd (Ty.int Go.IntKind.i64) p7 (↑(Int.toNat (rd (Ty.int Go.IntKind.i64) p11 (↑p0.toNat : Int))) : Int) < (↑p8.length : Int))) (chk (decide ((p13 ++ [rd (Ty.int Go.IntKind.i64) p8 (↑(Int.toNat (rd (Ty.int Go.IntKind.i64) p7 (↑(Int.toNat (rd (Ty.int Go.IntKind.i64) p11 (↑p0.toNat : Int))) : Int))) : Int)]).length * (8 : Nat) ≤ (140737488355328 : Nat))) (f123.l1 k m1 m0 (p1) (p2) (p3) (p4) (p5) (p12 ++ [rd (Ty.int Go.IntKind.i64) p7 (↑(Int.toNat (rd (Ty.int Go.IntKind.i64) p11 (↑p0.toNat : Int))) : Int)]) (p13 ++ [rd (Ty.int Go.IntKind.i64) p8 (↑(Int.toNat (rd (Ty.int Go.IntKind.i64) p7 (↑(Int.toNat (rd (Ty.int Go.IntKind.i64) p11 (↑p0.toNat : Int))) : Int))) : Int)]) (p6) (p7) (p8) (p9) (p10) (p11) (p14) (p15))))) (both (chk (decide ((p12 ++ [rd (Ty.int Go.IntKind.i64) p7 (↑(Int.toNat (rd (Ty.int Go.IntKind.i64) p11 (↑p0.toNat : Int))) : Int)]).length * (8 : Nat) ≤ (140737488355328 : Nat))) (chk (decide ((0 : Int) ≤ rd (Ty.int Go.IntKind.i64) p7 (↑(Int.toNat (rd (Ty.int Go.IntKind.i64) p11 (↑p0.toNat : Int))) : Int) ∧ rd (Ty.int Go.IntKind.i64) p7 (↑(Int.toNat (rd (Ty.int Go.IntKind.i64) p11 (↑p0.toNat : Int))) : Int) < (↑p8.length : Int))) (chk (decide ((p13 ++ [rd (Ty.int Go.IntKind.i64) p8 (↑(Int.toNat (rd (Ty.int Go.IntKind.i64) p7 (↑(Int.toNat (rd (Ty.int Go.IntKind.i64) p11 (↑p0.toNat : Int))) : Int))) : Int)]).length * (8 : Nat) ≤ (140737488355328 : Nat))) (f123.l1 k m1 m0 (p1) (p2) (p3) (p4) (p5) (p12 ++ [rd (Ty.int Go.IntKind.i64) p7 (↑(Int.toNat (rd (Ty.int Go.IntKind.i64) p11 (↑p0.toNat : Int))) : Int)]) (p13 ++ [rd (Ty.int Go.IntKind.i64) p8 (↑(Int.toNat (rd (Ty.int Go.IntKind.i64) p7 (↑(Int.toNat (rd (Ty.int Go.IntKind.i64) p11 (↑p0.toNat : Int))) : Int))) : Int)]) (p6) (p7) (p8) (p9) (p10) (p11) (p14) (p15))))) (both (chk (decide ((p12 ++ [rd (Ty.int Go.IntKind.i64) p7 (↑(Int.toNat (rd (Ty.int Go.IntKind.i64) p11 (↑p0.toNat : Int))) : Int)]).length * (8 : Nat) ≤ (140737488355328 : Nat))) (chk (decide ((0 : Int) ≤ rd (Ty.int Go.IntKind.i64) p7 (↑(Int.toNat (rd (Ty.int Go.IntKind.i64) p11 (↑p0.toNat : Int))) : Int) ∧ rd (Ty.int Go.IntKind.i64) p7 (↑(Int.toNat (rd (Ty.int Go.IntKind.i64) p11 (↑p0.toNat : Int))) : Int) < (↑p8.length : Int))) (chk (decide ((p13 ++ [rd (Ty.int Go.IntKind.i64) p8 (↑(Int.toNat (rd (Ty.int Go.IntKind.i64) p7 (↑(Int.toNat (rd (Ty.int Go.IntKind.i64) p11 (↑p0.toNat : Int))) : Int))) : Int)]).length * (8 : Nat) ≤ (140737488355328 : Nat))) (f123.l1 k m1 m0 (p1) (p2) (p3) (p4) (p5) (p12 ++ [rd (Ty.int Go.IntKind.i64) p7 (↑(Int.toNat (rd (Ty.int Go.IntKind.i64) p11 (↑p0.toNat : Int))) : Int)]) (p13 ++ [rd (Ty.int Go.IntKind.i64) p8 (↑(Int.toNat (rd (Ty.int Go.IntKind.i64) p7 (↑(Int.toNat (rd (Ty.int Go.IntKind.i64) p11 (↑p0.toNat : Int))) : Int))) : Int)]) (p6) (p7) (p8) (p9) (p10) (p11) (p14) (p15))))) (chk (decide ((0 : Int) ≤ rd (Ty.int Go.IntKind.i64) p7 (↑(Int.toNat (rd (Ty.int Go.IntKind.i64) p11 (↑p0.toNat : Int))) : Int) ∧ rd (Ty.int Go.IntKind.i64) p7 (↑(Int.toNat (rd (Ty.int Go.IntKind.i64) p11 (↑p0.toNat : Int))) : Int) < (↑p8.length : Int))) (both (chk (decide ((p12 ++ [rd (Ty.int Go.IntKind.i64) p7 (↑(Int.toNat (rd (Ty.int Go.IntKind.i64) p11 (↑p0.toNat : Int))) : Int)]).length * (8 : Nat) ≤ (140737488355328 : Nat))) (chk (decide ((p13 ++ [rd (Ty.int Go.IntKind.i64) p8 (↑(Int.toNat (rd (Ty.int Go.IntKind.i64) p7 (↑(Int.toNat (rd (Ty.int Go.IntKind.i64) p11 (↑p0.toNat : Int))) : Int))) : Int)]).length * (8 : Nat) ≤ (140737488355328 : Nat))) (f123.l1 k m1 m0 (p1) (p2) (p3) (p4) (p5) (p12 ++ [rd (Ty.int Go.IntKind.i64) p7 (↑(Int.toNat (rd (Ty.int Go.IntKind.i64) p11 (↑p0.toNat : Int))) : Int)]) (p13 ++ [rd (Ty.int Go.IntKind.i64) p8 (↑(Int.toNat (rd (Ty.int Go.IntKind.i64) p7 (↑(Int.toNat (rd (Ty.int Go.IntKind.i64) p11 (↑p0.toNat : Int))) : Int))) : Int)]) (p6) (p7) (p8) (p9) (p10) (p11) (p14) (p15)))) (both (chk (decide ((p12 ++ [rd (Ty.int Go.IntKind.i64) p7 (↑(Int.toNat (rd (Ty.int Go.IntKind.i64) p11 (↑p0.toNat : Int))) : Int)]).length * (8 : Nat) ≤ (140737488355328 : Nat))) (chk (decide ((p13 ++ [rd (Ty.int Go.IntKind.i64) p8 (↑(Int.toNat (rd (Ty.int Go.IntKind.i64) p7 (↑(Int.toNat (rd (Ty.int Go.IntKind.i64) p11 (↑p0.toNat : Int))) : Int))) : Int)]).length * (8 : Nat) ≤ (140737488355328 : Nat))) (f123.l1 k m1 m0 (p1) (p2) (p3) (p4) (p5) (p12 ++ [rd (Ty.int Go.IntKind.i64) p7 (↑(Int.toNat (rd (Ty.int Go.IntKind.i64) p11 (↑p0.toNat : Int))) : Int)]) (p13 ++ [rd (Ty.int Go.IntKind.i64) p8 (↑(Int.toNat (rd (Ty.int Go.IntKind.i64) p7 (↑(Int.toNat (rd (Ty.int Go.IntKind.i64) p11 (↑p0.toNat : Int))) : Int))) : Int)]) (p6) (p7) (p8) (p9) (p10) (p11) (p14) (p15)))) (chk (decide ((p12 ++ [rd (Ty.int Go.IntKind.i64) p7 (↑(Int.toNat (rd (Ty.int Go.IntKind.i64) p11 (↑p0.toNat : Int))) : Int)]).length * (8 : Nat) ≤ (140737488355328 : Nat))) (chk (decide ((p13 ++ [rd (Ty.int Go.IntKind.i64) p8 (↑(Int.toNat (rd (Ty.int Go.IntKind.i64) p7 (↑(Int.toNat (rd (Ty.int Go.IntKind.i64) p11 (↑p0.toNat : Int))) : Int))) : Int)]).length * (8 : Nat) ≤ (140737488355328 : Nat))) (f123.l1 k m1 m0 (p1) (p2) (p3) (p4) (p5) (p12 ++ [rd (Ty.int Go.IntKind.i64) p7 (↑(Int.toNat (rd (Ty.int Go.IntKind.i64) p11 (↑p0.toNat : Int))) : Int)]) (p13 ++ [rd (Ty.int Go.IntKind.i64) p8 (↑(Int.toNat (rd (Ty.int Go.IntKind.i64) p7 (↑(Int.toNat (rd (Ty.int Go.IntKind.i64) p11 (↑p0.toNat : Int))) : Int))) : Int)]) (p6) (p7) (p8) (p9) (p10) (p11) (p14) (p15))))))))))) (both (both (chk (decide ((p12 ++ [rd (Ty.int Go.IntKind.i64) p7 (↑(Int.toNat (rd (Ty.int Go.IntKind.i64) p11 (↑p0.toNat : Int))) : Int)]).length * (8 : Nat) ≤ (140737488355328 : Nat))) (chk (decide ((0 : Int) ≤ rd (Ty.int Go.IntKind.i64) p7 (↑(Int.toNat (rd (Ty.int Go.IntKind.i64) p11 (↑p0.toNat : Int))) : Int) ∧ rd (Ty.int Go.IntKind.i64) p7 (↑(Int.toNat (rd (Ty.int Go.IntKind.i64) p11 (↑p0.toNat : Int))) : Int) < (↑p8.length : Int))) (chk (decide ((p13 ++ [rd (Ty.int Go.IntKind.i64) p8 (↑(Int.toNat (rd (Ty.int Go.IntKind.i64) p7 (↑(Int.toNat (rd (Ty.int Go.IntKind.i64) p11 (↑p0.toNat : Int))) : Int))) : Int)]).length * (8 : Nat) ≤ (140737488355328 : Nat))) (f123.l1 k m1 m0 (p1) (p2) (p3) (p4) (p5) (p12 ++ [rd (Ty.int Go.IntKind.i64) p7 (↑(Int.toNat (rd (Ty.int Go.IntKind.i64) p11 (↑p0.toNat : Int))) : Int)]) (p13 ++ [rd (Ty.int Go.IntKind.i64) p8 (↑(Int.toNat (rd (Ty.int Go.IntKind.i64) p7 (↑(Int.toNat (rd (Ty.int Go.IntKind.i64) p11 (↑p0.toNat : Int))) : Int))) : Int)]) (p6) (p7) (p8) (p9) (p10) (p11) (p14) (p15))))) (both (chk (decide ((p12 ++ [rd (Ty.int Go.IntKind.i64) p7 (↑(Int.toNat (rd (Ty.int Go.IntKind.i64) p11 (↑p0.toNat : Int))) : Int)]).length * (8 : Nat) ≤ (140737488355328 : Nat))) (chk (decide ((0 : Int) ≤ rd (Ty.int Go.IntKind.i64) p7 (↑(Int.toNat (rd (Ty.int Go.IntKind.i64) p11 (↑p0.toNat : Int))) : Int) ∧ rd (Ty.int Go.IntKind.i64) p7 (↑(Int.toNat (rd (Ty.int Go.IntKind.i64) p11 (↑p0.toNat : Int))) : Int) < (↑p8.length : Int))) (chk (decide ((p13 ++ [rd (Ty.int Go.IntKind.i64) p8 (↑(Int.toNat (rd (Ty.int Go.IntKind.i64) p7 (↑(Int.toNat (rd (Ty.int Go.IntKind.i64) p11 (↑p0.toNat : Int))) : Int))) : Int)]).length * (8 : Nat) ≤ (140737488355328 : Nat))) (f123.l1 k m1 m0 (p1) (p2) (p3) (p4) (p5) (p12 ++ [rd (Ty.int Go.IntKind.i64) p7 (↑(Int.toNat (rd (Ty.int Go.IntKind.i64) p11 (↑p0.toNat : Int))) : Int)]) (p13 ++ [rd (Ty.int Go.IntKind.i64) p8 (↑(Int.toNat (rd (Ty.int Go.IntKind.i64) p7 (↑(Int.toNat (rd (Ty.int Go.IntKind.i64) p11 (↑p0.toNat : Int))) : Int))) : Int)]) (p6) (p7) (p8) (p9) (p10) (p11) (p14) (p15))))) (both (chk (decide ((p12 ++ [rd (Ty.int Go.IntKind.i64) p7 (↑(Int.toNat (rd (Ty.int Go.IntKind.i64) p11 (↑p0.toNat : Int))) : Int)]).length * (8 : Nat) ≤ (140737488355328 : Nat))) (chk (decide ((0 : Int) ≤ rd (Ty.int Go.IntKind.i64) p7 (↑(Int.toNat (rd (Ty.int Go.IntKind.i64) p11 (↑p0.toNat : Int))) : Int) ∧ rd (Ty.int Go.IntKind.i64) p7 (↑(Int.toNat (rd (Ty.int Go.IntKind.i64) p11 (↑p0.toNat : Int))) : Int) < (↑p8.length : Int))) (chk (decide ((p13 ++ [rd (Ty.int Go.IntKind.i64) p8 (↑(Int.toNat (rd (Ty.int Go.IntKind.i64) p7 (↑(Int.toNat (rd (Ty.int Go.IntKind.i64) p11 (↑p0.toNat : Int))) : Int))) : Int)]).length * (8 : Nat) ≤ (140737488355328 : Nat))) (f123.l1 k m1 m0 (p1) (p2) (p3) (p4) (p5) (p12 ++ [rd (Ty.int Go.IntKind.i64) p7 (↑(Int.toNat (rd (Ty.int Go.IntKind.i64) p11 (↑p0.toNat : Int))) : Int)]) (p13 ++ [rd (Ty.int Go.IntKind.i64) p8 (↑(Int.toNat (rd (Ty.int Go.IntKind.i64) p7 (↑(Int.toNat (rd (Ty.int Go.IntKind.i64) p11 (↑p0.toNat : Int))) : Int))) : Int)]) (p6) (p7) (p8) (p9) (p10) (p11) (p14) (p15))))) (chk (decide ((0 : Int) ≤ rd (Ty.int Go.IntKind.i64) p7 (↑(Int.toNat (rd (Ty.int Go.IntKind.i64) p11 (↑p0.toNat : Int))) : Int) ∧ rd (Ty.int Go.IntKind.i64) p7 (↑(Int.toNat (rd (Ty.int Go.IntKind.i64) p11 (↑p0.toNat : Int))) : Int) < (↑p8.length : Int))) (both (chk (decide ((p12 ++ [rd (Ty.int Go.IntKind.i64) p7 (↑(Int.toNat (rd (Ty.int Go.IntKind.i64) p11 (↑p0.toNat : Int))) : Int)]).length * (8 : Nat) ≤ (140737488355328 : Nat))) (chk (decide ((p13 ++ [rd (Ty.int Go.IntKind.i64) p8 (↑(Int.toNat (rd (Ty.int Go.IntKind.i64) p7 (↑(Int.toNat (rd (Ty.int Go.IntKind.i64) p11 (↑p0.toNat : Int))) : Int))) : Int)]).length * (8 : Nat) ≤ (140737488355328 : Nat))) (f123.l1 k m1 m0 (p1) (p2) (p3) (p4) (p5) (p12 ++ [rd (Ty.int Go.IntKind.i64) p7 (↑(Int.toNat (rd (Ty.int Go.IntKind.i64) p11 (↑p0.toNat : Int))) : Int)]) (p13 ++ [rd (Ty.int Go.IntKind.i64) p8 (↑(Int.toNat (rd (Ty.int Go.IntKind.i64) p7 (↑(Int.toNat (rd (Ty.int Go.IntKind.i64) p11 (↑p0.toNat : Int))) : Int))) : Int)]) (p6) (p7) (p8) (p9) (p10) (p11) (p14) (p15)))) (both (chk (decide ((p12 ++ [rd (Ty.int Go.IntKind.i64) p7 (↑(Int.toNat (rd (Ty.int Go.IntKind.i64) p11 (↑p0.toNat : Int))) : Int)]).length * (8 : Nat) ≤ (140737488355328 : Nat))) (chk (decide ((p13 ++ [rd (Ty.int Go.IntKind.i64) p8 (↑(Int.toNat (rd (Ty.int Go.IntKind.i64) p7 (↑(Int.toNat (rd (Ty.int Go.IntKind.i64) p11 (↑p0.toNat : Int))) : Int))) : Int)]).length * (8 : Nat) ≤ (140737488355328 : Nat))) (f123.l1 k m1 m0 (p1) (p2) (p3) (p4) (p5) (p12 ++ [rd (Ty.int Go.IntKind.i64) p7 (↑(Int.toNat (rd (Ty.int Go.IntKind.i64) p11 (↑p0.toNat : Int))) : Int)]) (p13 ++ [rd (Ty.int Go.IntKind.i64) p8 (↑(Int.toNat (rd (Ty.int Go.IntKind.i64) p7 (↑(Int.toNat (rd (Ty.int Go.IntKind.i64) p11 (↑p0.toNat : Int))) : Int))) : Int)]) (p6) (p7) (p8) (p9) (p10) (p11) (p14) (p15)))) (chk (decide ((p12 ++ [rd (Ty.int Go.IntKind.i64) p7 (↑(Int.toNat (rd (Ty.int Go.IntKind.i64) p11 (↑p0.toNat : Int))) : Int)]).length * (8 : Nat) ≤ (140737488355328 : Nat))) (chk (decide ((p13 ++ [rd (Ty.int Go.IntKind.i64) p8 (↑(Int.toNat (rd (Ty.int Go.IntKind.i64) p7 (↑(Int.toNat (rd (Ty.int Go.IntKind.i64) p11 (↑p0.toNat : Int))) : Int))) : Int)]).length * (8 : Nat) ≤ (140737488355328 : Nat))) (f123.l1 k m1 m0 (p1) (p2) (p3) (p4) (p5) (p12 ++ [rd (Ty.int Go.IntKind.i64) p7 (↑(Int.toNat (rd (Ty.int Go.IntKind.i64) p11 (↑p0.toNat : Int))) : Int)]) (p13 ++ [rd (Ty.int Go.IntKind.i64) p8 (↑(Int.toNat (rd (Ty.int Go.IntKind.i64) p7 (↑(Int.toNat (rd (Ty.int Go.IntKind.i64) p11 (↑p0.toNat : Int))) : Int))) : Int)]) (p6) (p7) (p8) (p9) (p10) (p11) (p14) (p15)))))))))) (both (both (chk (decide ((p12 ++ [rd (Ty.int Go.IntKind.i64) p7 (↑(Int.toNat (rd (Ty.int Go.IntKind.i64) p11 (↑p0.toNat : Int))) : Int)]).length * (8 : Nat) ≤ (140737488355328 : Nat))) (chk (decide ((0 : Int) ≤ rd (Ty.int Go.IntKind.i64) p7 (↑(Int.toNat (rd (Ty.int Go.IntKind.i64) p11 (↑p0.toNat : Int))) : Int) ∧ rd (Ty.int Go.IntKind.i64) p7 (↑(Int.toNat (rd (Ty.int Go.IntKind.i64) p11 (↑p0.toNat : Int))) : Int) < (↑p8.length : Int))) (chk (decide ((p13 ++ [rd (Ty.int Go.IntKind.i64) p8 (↑(Int.toNat (rd (Ty.int Go.IntKind.i64) p7 (↑(Int.toNat (rd (Ty.int Go.IntKind.i64) p11 (↑p0.toNat : Int))) : Int))) : Int)]).length * (8 : Nat) ≤ (140737488355328 : Nat))) (f123.l1 k m1 m0 (p1) (p2) (p3) (p4) (p5) (p12 ++ [rd (Ty.int Go.IntKind.i64) p7 (↑(Int.toNat (rd (Ty.int Go.IntKind.i64) p11 (↑p0.toNat : Int))) : Int)]) (p13 ++ [rd (Ty.int Go.IntKind.i64) p8 (↑(Int.toNat (rd (Ty.int Go.IntKind.i64) p7 (↑(Int.toNat (rd (Ty.int Go.IntKind.i64) p11 (↑p0.toNat : Int))) : Int))) : Int)]) (p6) (p7) (p8) (p9) (p10) (p11) (p14) (p15))))) (both (chk (decide ((p12 ++ [rd (Ty.int Go.IntKind.i64) p7 (↑(Int.toNat (rd (Ty.int Go.IntKind.i64) p11 (↑p0.toNat : Int))) : Int)]).length * (8 : Nat) ≤ (140737488355328 : Nat))) (chk (decide ((0 : Int) ≤ rd (Ty.int Go.IntKind.i64) p7 (↑(Int.toNat (rd (Ty.int Go.IntKind.i64) p11 (↑p0.toNat : Int))) : Int) ∧ rd (Ty.int Go.IntKind.i64) p7 (↑(Int.toNat (rd (Ty.int Go.IntKind.i64) p11 (↑p0.toNat : Int))) : Int) < (↑p8.length : Int))) (chk (decide ((p13 ++ [rd (Ty.int Go.IntKind.i64) p8 (↑(Int.toNat (rd (Ty.int Go.IntKind.i64) p7 (↑(Int.toNat (rd (Ty.int Go.IntKind.i64) p11 (↑p0.toNat : Int))) : Int))) : Int)]).length * (8 : Nat) ≤ (140737488355328 : Nat))) (f123.l1 k m1 m0 (p1) (p2) (p3) (p4) (p5) (p12 ++ [rd (Ty.int Go.IntKind.i64) p7 (↑(Int.toNat (rd (Ty.int Go.IntKind.i64) p11 (↑p0.toNat : Int))) : Int)]) (p13 ++ [rd (Ty.int Go.IntKind.i64) p8 (↑(Int.toNat (rd (Ty.int Go.IntKind.i64) p7 (↑(Int.toNat (rd (Ty.int Go.IntKind.i64) p11 (↑p0.toNat : Int))) : Int))) : Int)]) (p6) (p7) (p8) (p9) (p10) (p11) (p14) (p15))))) (chk (decide ((0 : Int) ≤ rd (Ty.int Go.IntKind.i64) p7 (↑(Int.toNat (rd (Ty.int Go.IntKind.i64) p11 (↑p0.toNat : Int))) : Int) ∧ rd (Ty.int Go.IntKind.i64) p7 (↑(Int.toNat (rd (Ty.int Go.IntKind.i64) p11 (↑p0.toNat : Int))) : Int) < (↑p8.length : Int))) (both (chk (decide ((p12 ++ [rd (Ty.int Go.IntKind.i64) p7 (↑(Int.toNat (rd (Ty.int Go.IntKind.i64) p11 (↑p0.toNat : Int))) : Int)]).length * (8 : Nat) ≤ (140737488355328 : Nat))) (chk (decide ((p13 ++ [rd (Ty.int Go.IntKind.i64) p8 (↑(Int.toNat (rd (Ty.int Go.IntKind.i64) p7 (↑(Int.toNat (rd (Ty.int Go.IntKind.i64) p11 (↑p0.toNat : Int))) : Int))) : Int)]).length * (8 : Nat) ≤ (140737488355328 : Nat))) (f123.l1 k m1 m0 (p1) (p2) (p3) (p4) (p5) (p12 ++ [rd (Ty.int Go.IntKind.i64) p7 (↑(Int.toNat (rd (Ty.int Go.IntKind.i64) p11 (↑p0.toNat : Int))) : Int)]) (p13 ++ [rd (Ty.int Go.IntKind.i64) p8 (↑(Int.toNat (rd (Ty.int Go.IntKind.i64) p7 (↑(Int.toNat (rd (Ty.int Go.IntKind.i64) p11 (↑p0.toNat : Int))) : Int))) : Int)]) (p6) (p7) (p8) (p9) (p10) (p11) (p14) (p15)))) (both (chk (decide ((p12 ++ [rd (Ty.int Go.IntKind.i64) p7 (↑(Int.toNat (rd (Ty.int Go.IntKind.i64) p11 (↑p0.toNat : Int))) : Int)]).length * (8 : Nat) ≤ (140737488355328 : Nat))) (chk (decide ((p13 ++ [rd (Ty.int Go.IntKind.i64) p8 (↑(Int.toNat (rd (Ty.int Go.IntKind.i64) p7 (↑(Int.toNat (rd (Ty.int Go.IntKind.i64) p11 (↑p0.toNat : Int))) : Int))) : Int)]).length * (8 : Nat) ≤ (140737488355328 : Nat))) (f123.l1 k m1 m0 (p1) (p2) (p3) (p4) (p5) (p12 ++ [rd (Ty.int Go.IntKind.i64) p7 (↑(Int.toNat (rd (Ty.int Go.IntKind.i64) p11 (↑p0.toNat : Int))) : Int)]) (p13 ++ [rd (Ty.int Go.IntKind.i64) p8 (↑(Int.toNat (rd (Ty.int Go.IntKind.i64) p7 (↑(Int.toNat (rd (Ty.int Go.IntKind.i64) p11 (↑p0.toNat : Int))) : Int))) : Int)]) (p6) (p7) (p8) (p9) (p10) (p11) (p14) (p15)))) (chk (decide ((p12 ++ [rd (Ty.int Go.IntKind.i64) p7 (↑(Int.toNat (rd (Ty.int Go.IntKind.i64) p11 (↑p0.toNat : Int))) : Int)]).length * (8 : Nat) ≤ (140737488355328 : Nat))) (chk (decide ((p13 ++ [rd (Ty.int Go.IntKind.i64) p8 (↑(Int.toNat (rd (Ty.int Go.IntKind.i64) p7 (↑(Int.toNat (rd (Ty.int Go.IntKind.i64) p11 (↑p0.toNat : Int))) : Int))) : Int)]).length * (8 : Nat) ≤ (140737488355328 : Nat))) (f123.l1 k m1 m0 (p1) (p2) (p3) (p4) (p5) (p12 ++ [rd (Ty.int Go.IntKind.i64) p7 (↑(Int.toNat (rd (Ty.int Go.IntKind.i64) p11 (↑p0.toNat : Int))) : Int)]) (p13 ++ [rd (Ty.int Go.IntKind.i64) p8 (↑(Int.toNat (rd (Ty.int Go.IntKind.i64) p7 (↑(Int.toNat (rd (Ty.int Go.IntKind.i64) p11 (↑p0.toNat : Int))) : Int))) : Int)]) (p6) (p7) (p8) (p9) (p10) (p11) (p14) (p15))))))))) (both (both (chk (decide ((p12 ++ [rd (Ty.int Go.IntKind.i64) p7 (↑(Int.toNat (rd (Ty.int Go.IntKind.i64) p11 (↑p0.toNat : Int))) : Int)]).length * (8 : Nat) ≤ (140737488355328 : Nat))) (chk (decide ((0 : Int) ≤ rd (Ty.int Go.IntKind.i64) p7 (↑(Int.toNat (rd (Ty.int Go.IntKind.i64) p11 (↑p0.toNat : Int))) : Int) ∧ rd (Ty.int Go.IntKind.i64) p7 (↑(Int.toNat (rd (Ty.int Go.IntKind.i64) p11 (↑p0.toNat : Int))) : Int) < (↑p8.length : Int))) (chk (decide ((p13 ++ [rd (Ty.int Go.IntKind.i64) p8 (↑(Int.toNat (rd (Ty.int Go.IntKind.i64) p7 (↑(Int.toNat (rd (Ty.int Go.IntKind.i64) p11 (↑p0.toNat : Int))) : Int))) : Int)]).length * (8 : Nat) ≤ (140737488355328 : Nat))) (f123.l1 k m1 m0 (p1) (p2) (p3) (p4) (p5) (p12 ++ [rd (Ty.int Go.IntKind.i64) p7 (↑(Int.toNat (rd (Ty.int Go.IntKind.i64) p11 (↑p0.toNat : Int))) : Int)]) (p13 ++ [rd (Ty.int Go.IntKind.i64) p8 (↑(Int.toNat (rd (Ty.int Go.IntKind.i64) p7 (↑(Int.toNat (rd (Ty.int Go.IntKind.i64) p11 (↑p0.toNat : Int))) : Int))) : Int)]) (p6) (p7) (p8) (p9) (p10) (p11) (p14) (p15))))) (chk (decide ((0 : Int) ≤ rd (Ty.int Go.IntKind.i64) p7 (↑(Int.toNat (rd (Ty.int Go.IntKind.i64) p11 (↑p0.toNat : Int))) : Int) ∧ rd (Ty.int Go.IntKind.i64) p7 (↑(Int.toNat (rd (Ty.int Go.IntKind.i64) p11 (↑p0.toNat : Int))) : Int) < (↑p8.length : Int))) (both (chk (decide ((p12 ++ [rd (Ty.int Go.IntKind.i64) p7 (↑(Int.toNat (rd (Ty.int Go.IntKind.i64) p11 (↑p0.toNat : Int))) : Int)]).length * (8 : Nat) ≤ (140737488355328 : Nat))) (chk (decide ((p13 ++ [rd (Ty.int Go.IntKind.i64) p8 (↑(Int.toNat (rd (Ty.int Go.IntKind.i64) p7 (↑(Int.toNat (rd (Ty.int Go.IntKind.i64) p11 (↑p0.toNat : Int))) : Int))) : Int)]).length * (8 : Nat) ≤ (140737488355328 : Nat))) (f123.l1 k m1 m0 (p1) (p2) (p3) (p4) (p5) (p12 ++ [rd (Ty.int Go.IntKind.i64) p7 (↑(Int.toNat (rd (Ty.int Go.IntKind.i64) p11 (↑p0.toNat : Int))) : Int)]) (p13 ++ [rd (Ty.int Go.IntKind.i64) p8 (↑(Int.toNat (rd (Ty.int Go.IntKind.i64) p7 (↑(Int.toNat (rd (Ty.int Go.IntKind.i64) p11 (↑p0.toNat : Int))) : Int))) : Int)]) (p6) (p7) (p8) (p9) (p10) (p11) (p14) (p15)))) (both (chk (decide ((p12 ++ [rd (Ty.int Go.IntKind.i64) p7 (↑(Int.toNat (rd (Ty.int Go.IntKind.i64) p11 (↑p0.toNat : Int))) : Int)]).length * (8 : Nat) ≤ (140737488355328 : Nat))) (chk (decide ((p13 ++ [rd (Ty.int Go.IntKind.i64) p8 (↑(Int.toNat (rd (Ty.int Go.IntKind.i64) p7 (↑(Int.toNat (rd (Ty.int Go.IntKind.i64) p11 (↑p0.toNat : Int))) : Int))) : Int)]).length * (8 : Nat) ≤ (140737488355328 : Nat))) (f123.l1 k m1 m0 (p1) (p2) (p3) (p4) (p5) (p12 ++ [rd (Ty.int Go.IntKind.i64) p7 (↑(Int.toNat (rd (Ty.int Go.IntKind.i64) p11 (↑p0.toNat : Int))) : Int)]) (p13 ++ [rd (Ty.int Go.IntKind.i64) p8 (↑(Int.toNat (rd (Ty.int Go.IntKind.i64) p7 (↑(Int.toNat (rd (Ty.int Go.IntKind.i64) p11 (↑p0.toNat : Int))) : Int))) : Int)]) (p6) (p7) (p8) (p9) (p10) (p11) (p14) (p15)))) (chk (decide ((p12 ++ [rd (Ty.int Go.IntKind.i64) p7 (↑(Int.toNat (rd (Ty.int Go.IntKind.i64) p11 (↑p0.toNat : Int))) : Int)]).length * (8 : Nat) ≤ (140737488355328 : Nat))) (chk (decide ((p13 ++ [rd (Ty.int Go.IntKind.i64) p8 (↑(Int.toNat (rd (Ty.int Go.IntKind.i64) p7 (↑(Int.toNat (rd (Ty.int Go.IntKind.i64) p11 (↑p0.toNat : Int))) : Int))) : Int)]).length * (8 : Nat) ≤ (140737488355328 : Nat))) (f123.l1 k m1 m0 (p1) (p2) (p3) (p4) (p5) (p12 ++ [rd (Ty.int Go.IntKind.i64) p7 (↑(Int.toNat (rd (Ty.int Go.IntKind.i64) p11 (↑p0.toNat : Int))) : Int)]) (p13 ++ [rd (Ty.int Go.IntKind.i64) p8 (↑(Int.toNat (rd (Ty.int Go.IntKind.i64) p7 (↑(Int.toNat (rd (Ty.int Go.IntKind.i64) p11 (↑p0.toNat : Int))) : Int))) : Int)]) (p6) (p7) (p8) (p9) (p10) (p11) (p14) (p15)))))))) (chk (decide ((0 : Int) ≤ rd (Ty.int Go.IntKind.i64) p7 (↑(Int.toNat (rd (Ty.int Go.IntKind.i64) p11 (↑p0.toNat : Int))) : Int) ∧ rd (Ty.int Go.IntKind.i64) p7 (↑(Int.toNat (rd (Ty.int Go.IntKind.i64) p11 (↑p0.toNat : Int))) : Int) < (↑p8.length : Int))) (both (both (chk (decide ((p12 ++ [rd (Ty.int Go.IntKind.i64) p7 (↑(Int.toNat (rd (Ty.int Go.IntKind.i64) p11 (↑p0.toNat : Int))) : Int)]).length * (8 : Nat) ≤ (140737488355328 : Nat))) (chk (decide ((p13 ++ [rd (Ty.int Go.IntKind.i64) p8 (↑(Int.toNat (rd (Ty.int Go.IntKind.i64) p7 (↑(Int.toNat (rd (Ty.int Go.IntKind.i64) p11 (↑p0.toNat : Int))) : Int))) : Int)]).length * (8 : Nat) ≤ (140737488355328 : Nat))) (f123.l1 k m1 m0 (p1) (p2) (p3) (p4) (p5) (p12 ++ [rd (Ty.int Go.IntKind.i64) p7 (↑(Int.toNat (rd (Ty.int Go.IntKind.i64) p11 (↑p0.toNat : Int))) : Int)]) (p13 ++ [rd (Ty.int Go.IntKind.i64) p8 (↑(Int.toNat (rd (Ty.int Go.IntKind.i64) p7 (↑(Int.toNat (rd (Ty.int Go.IntKind.i64) p11 (↑p0.toNat : Int))) : Int))) : Int)]) (p6) (p7) (p8) (p9) (p10) (p11) (p14) (p15)))) (both (chk (decide ((p12 ++ [rd (Ty.int Go.IntKind.i64) p7 (↑(Int.toNat (rd (Ty.int Go.IntKind.i64) p11 (↑p0.toNat : Int))) : Int)]).length * (8 : Nat) ≤ (140737488355328 : Nat))) (chk (decide ((p13 ++ [rd (Ty.int Go.IntKind.i64) p8 (↑(Int.toNat (rd (Ty.int Go.IntKind.i64) p7 (↑(Int.toNat (rd (Ty.int Go.IntKind.i64) p11 (↑p0.toNat : Int))) : Int))) : Int)]).length * (8 : Nat) ≤ (140737488355328 : Nat))) (f123.l1 k m1 m0 (p1) (p2) (p3) (p4) (p5) (p12 ++ [rd (Ty.int Go.IntKind.i64) p7 (↑(Int.toNat (rd (Ty.int Go.IntKind.i64) p11 (↑p0.toNat : Int))) : Int)]) (p13 ++ [rd (Ty.int Go.IntKind.i64) p8 (↑(Int.toNat (rd (Ty.int Go.IntKind.i64) p7 (↑(Int.toNat (rd (Ty.int Go.IntKind.i64) p11 (↑p0.toNat : Int))) : Int))) : Int)]) (p6) (p7) (p8) (p9) (p10) (p11) (p14) (p15)))) (chk (decide ((p12 ++ [rd (Ty.int Go.IntKind.i64) p7 (↑(Int.toNat (rd (Ty.int Go.IntKind.i64) p11 (↑p0.toNat : Int))) : Int)]).length * (8 : Nat) ≤ (140737488355328 : Nat))) (chk (decide ((p13 ++ [rd (Ty.int Go.IntKind.i64) p8 (↑(Int.toNat (rd (Ty.int Go.IntKind.i64) p7 (↑(Int.toNat (rd (Ty.int Go.IntKind.i64) p11 (↑p0.toNat : Int))) : Int))) : Int)]).length * (8 : Nat) ≤ (140737488355328 : Nat))) (f123.l1 k m1 m0 (p1) (p2) (p3) (p4) (p5) (p12 ++ [rd (Ty.int Go.IntKind.i64) p7 (↑(Int.toNat (rd (Ty.int Go.IntKind.i64) p11 (↑p0.toNat : Int))) : Int)]) (p13 ++ [rd (Ty.int Go.IntKind.i64) p8 (↑(Int.toNat (rd (Ty.int Go.IntKind.i64) p7 (↑(Int.toNat (rd (Ty.int Go.IntKind.i64) p11 (↑p0.toNat : Int))) : Int))) : Int)]) (p6) (p7) (p8) (p9) (p10) (p11) (p14) (p15)))))) (both (both (chk (decide ((p12 ++ [rd (Ty.int Go.IntKind.i64) p7 (↑(Int.toNat (rd (Ty.int Go.IntKind.i64) p11 (↑p0.toNat : Int))) : Int)]).length * (8 : Nat) ≤ (140737488355328 : Nat))) (chk (decide ((p13 ++ [rd (Ty.int Go.IntKind.i64) p8 (↑(Int.toNat (rd (Ty.int Go.IntKind.i64) p7 (↑(Int.toNat (rd (Ty.int Go.IntKind.i64) p11 (↑p0.toNat : Int))) : Int))) : Int)]).length * (8 : Nat) ≤ (140737488355328 : Nat))) (f123.l1 k m1 m0 (p1) (p2) (p3) (p4) (p5) (p12 ++ [rd (Ty.int Go.IntKind.i64) p7 (↑(Int.toNat (rd (Ty.int Go.IntKind.i64) p11 (↑p0.toNat : Int))) : Int)]) (p13 ++ [rd (Ty.int Go.IntKind.i64) p8 (↑(Int.toNat (rd (Ty.int Go.IntKind.i64) p7 (↑(Int.toNat (rd (Ty.int Go.IntKind.i64) p11 (↑p0.toNat : Int))) : Int))) : Int)]) (p6) (p7) (p8) (p9) (p10) (p11) (p14) (p15)))) (chk (decide ((p12 ++ [rd (Ty.int Go.IntKind.i64) p7 (↑(Int.toNat (rd (Ty.int Go.IntKind.i64) p11 (↑p0.toNat : Int))) : Int)]).length * (8 : Nat) ≤ (140737488355328 : Nat))) (chk (decide ((p13 ++ [rd (Ty.int Go.IntKind.i64) p8 (↑(Int.toNat (rd (Ty.int Go.IntKind.i64) p7 (↑(Int.toNat (rd (Ty.int Go.IntKind.i64) p11 (↑p0.toNat : Int))) : Int))) : Int)]).length * (8 : Nat) ≤ (140737488355328 : Nat))) (f123.l1 k m1 m0 (p1) (p2) (p3) (p4) (p5) (p12 ++ [rd (Ty.int Go.IntKind.i64) p7 (↑(Int.toNat (rd (Ty.int Go.IntKind.i64) p11 (↑p0.toNat : Int))) : Int)]) (p13 ++ [rd (Ty.int Go.IntKind.i64) p8 (↑(Int.toNat (rd (Ty.int Go.IntKind.i64) p7 (↑(Int.toNat (rd (Ty.int Go.IntKind.i64) p11 (↑p0.toNat : Int))) : Int))) : Int)]) (p6) (p7) (p8) (p9) (p10) (p11) (p14) (p15))))) (chk (decide ((p12 ++ [rd (Ty.int Go.IntKind.i64) p7 (↑(Int.toNat (rd (Ty.int Go.IntKind.i64) p11 (↑p0.toNat : Int))) : Int)]).length * (8 : Nat) ≤ (140737488355328 : Nat))) (chk (decide ((p13 ++ [rd (Ty.int Go.IntKind.i64) p8 (↑(Int.toNat (rd (Ty.int Go.IntKind.i64) p7 (↑(Int.toNat (rd (Ty.int Go.IntKind.i64) p11 (↑p0.toNat : Int))) : Int))) : Int)]).length * (8 : Nat) ≤ (140737488355328 : Nat))) (f123.l1 k m1 m0 (p1) (p2) (p3) (p4) (p5) (p12 ++ [rd (Ty.int Go.IntKind.i64) p7 (↑(Int.toNat (rd (Ty.int Go.IntKind.i64) p11 (↑p0.toNat : Int))) : Int)]) (p13 ++ [rd (Ty.int Go.IntKind.i64) p8 (↑(Int.toNat (rd (Ty.int Go.IntKind.i64) p7 (↑(Int.toNat (rd (Ty.int Go.IntKind.i64) p11 (↑p0.toNat : Int))) : Int))) : Int)]) (p6) (p7) (p8) (p9) (p10) (p11) (p14) (p15)))))))))))) else (chk (decide ((0 : Int) ≤ p0 ∧ p0 < (↑p11.length : Int))) (chk (decide ((0 : Int) ≤ p0 ∧ p0 < (↑p11.length : Int))) (f123.l3 k n m0 m1 (p0) (p1) (p2) (p3) (p4) (p5) (p6) (p7) (p8) (p9) (p10) (p11.set p0.toNat (Go.IntKind.i64.wrap (rd (Ty.int Go.IntKind.i64) p11 (↑p0.toNat : Int) + (1 : Int)))) (p12) (p13) (p14) (p15)))))) else (chk (decide ((0 : Int) ≤ p0 ∧ p0 < (↑p11.length : Int))) (chk (decide ((0 : Int) ≤ p0 ∧ p0 < (↑p11.length : Int))) (f123.l3 k n m0 m1 (p0) (p1) (p2) (p3) (p4) (p5) (p6) (p7) (p8) (p9) (p10) (p11.set p0.toNat (Go.IntKind.i64.wrap (rd (Ty.int Go.IntKind.i64) p11 (↑p0.toNat : Int) + (1 : Int)))) (p12) (p13) (p14) (p15)))))))))) else (bif (↑p12.length : Int) == (0 : Int) then (some (.tup [(.own (.int .i64) (p10)), (.int .i64 (p5)), (.int .i64 ((0 : Int)))])) else (chk (decide ((0 : Int) ≤ (0 : Int) ∧ (0 : Int) ≤ Go.IntKind.i64.wrap ((↑p12.length : Int) - (1 : Int)))) (chk (decide (Go.IntKind.i64.wrap ((↑p12.length : Int) - (1 : Int)) ≤ (↑p12.length : Int))) (chk (decide ((0 : Int) ≤ (0 : Int) ∧ (0 : Int) ≤ Go.IntKind.i64.wrap ((↑p13.length : Int) - (1 : Int)))) (chk (decide (Go.IntKind.i64.wrap ((↑p13.length : Int) - (1 : Int)) ≤ (↑p13.length : Int))) (chk (decide ((0 : Int) ≤ Go.IntKind.i64.wrap ((↑((Go.IntKind.i64.wrap ((↑p13.length : Int) - (1 : Int))).toNat - (0 : Nat)) : Int) - (1 : Int)) ∧ Go.IntKind.i64.wrap ((↑((Go.IntKind.i64.wrap ((↑p13.length : Int) - (1 : Int))).toNat - (0 : Nat)) : Int) - (1 : Int)) < (↑((Go.IntKind.i64.wrap ((↑p13.length : Int) - (1 : Int))).toNat - (0 : Nat)) : Int))) (chk (decide ((0 : Int) ≤ rd (Ty.int Go.IntKind.i64) p13 (↑((0 : Nat) + (Go.IntKind.i64.wrap ((↑((Go.IntKind.i64.wrap ((↑p13.length : Int) - (1 : Int))).toNat - (0 : Nat)) : Int) - (1 : Int))).toNat) : Int) ∧ rd (Ty.int Go.IntKind.i64) p13 (↑((0 : Nat) + (Go.IntKind.i64.wrap ((↑((Go.IntKind.i64.wrap ((↑p13.length : Int) - (1 : Int))).toNat - (0 : Nat)) : Int) - (1 : Int))).toNat) : Int) < (↑p11.length : Int))) (chk (decide ((0 : Int) ≤ rd (Ty.int Go.IntKind.i64) p13 (↑((0 : Nat) + (Go.IntKind.i64.wrap ((↑((Go.IntKind.i64.wrap ((↑p13.length : Int) - (1 : Int))).toNat - (0 : Nat)) : Int) - (1 : Int))).toNat) : Int) ∧ rd (Ty.int Go.IntKind.i64) p13 (↑((0 : Nat) + (Go.IntKind.i64.wrap ((↑((Go.IntKind.i64.wrap ((↑p13.length : Int) - (1 : Int))).toNat - (0 : Nat)) : Int) - (1 : Int))).toNat) : Int) < (↑p11.length : Int))) (f123.l1 k m1 m0 (p1) (p2) (p3) (p4) (p5) (List.take ((Go.IntKind.i64.wrap ((↑p12.length : Int) - (1 : Int))).toNat - (0 : Nat)) (List.drop (0 : Nat) p12)) (List.take ((Go.IntKind.i64.wrap ((↑p13.length : Int) - (1 : Int))).toNat - (0 : Nat)) (List.drop (0 : Nat) p13)) (p6) (p7) (p8) (p9) (p10) (p11.set (Int.toNat (rd (Ty.int Go.IntKind.i64) p13 (↑((0 : Nat) + (Go.IntKind.i64.wrap ((↑((Go.IntKind.i64.wrap ((↑p13.length : Int) - (1 : Int))).toNat - (0 : Nat)) : Int) - (1 : Int))).toNat) : Int))) (Go.IntKind.i64.wrap (rd (Ty.int Go.IntKind.i64) p11 (↑(Int.toNat (rd (Ty.int Go.IntKind.i64) p13 (↑((0 : Nat) + (Go.IntKind.i64.wrap ((↑((Go.IntKind.i64.wrap ((↑p13.length : Int) - (1 : Int))).toNat - (0 : Nat)) : Int) - (1 : Int))).toNat) : Int))) : Int) + (1 : Int)))) (p14) (p15)))))))))))) := by kernel_rfl
theorem f123.eq (k : Nat) (x0 : Int × List (Int × Int × Int)) (x1 : List Int) (x2 : List Int) (x3 : Int) (x4 : Int) (x5 : Int) : evFn (f123.E k) 9 123 Try.f123 [(.agg [(.int .i64 (x0.fst)), (.ro (.pair (.int .i64) (.pair (.int .i64) (.int .i64))) (x0.snd))]), (.ro (.int .i64) (x1)), (.ro (.int .i64) (x2)), (.int .i64 (x3)), (.int .i64 (x4)), (.int .i64 (x5))] =
  bif !mayF x0 x1 x2 x3 x4 then (some (.tup [(.own (.int .i64) ([])), (.int .i64 ((0 : Int))), (.int .i64 ((1100 : Int)))])) else (bif !rateB x5 then (some (.tup [(.own (.int .i64) ([])), (.int .i64 ((0 : Int))), (.int .i64 ((1100 : Int)))])) else ((chk (graphMay x0) (some ((startsA x0.snd (Int.toNat x0.fst), orderA x0.snd (Int.toNat x0.fst), headsA x0.snd)))).bind (fun y0 => (chk (graphMay x0) (some (levelsRes x0 x1 x2 x3))).bind (fun y1 => (chk (decide (x2.length * (8 : Nat) ≤ (140737488355328 : Nat))) (some (x2))).bind (fun y2 => (chk (decide (y0.fst.length * (8 : Nat) ≤ (140737488355328 : Nat))) (some (y0.fst))).bind (fun y3 => f123.l0 k k (x1) (x3) (x4) (x5) ((0 : Int)) (x0.fst) (x0.snd) (y0.fst) (y0.snd.fst) (y0.snd.snd) (y1.fst) (y2) (y3))))))) := by kernel_rfl
theorem f123.inl (k : Nat) : InlOk Try.prog (f123.E k) := (inl_cons (by kernel_rfl) (by kernel_rfl) (inl_cons (by kernel_rfl) (by kernel_rfl) (inl_cons (by kernel_rfl) (by kernel_rfl) (inl_cons (by kernel_rfl) (by kernel_rfl) inl_nil))))
theorem f123.sums (k : Nat) : SumsOk Try.prog (f123.E k) := (sums_cons ok78 (sums_cons ok98 (sums_cons ok124 (sums_cons ok125 (sums_cons ok132 (sums_cons ok134 (sums_cons ok136 (sums_cons ok139 sums_nil))))))))
end

section
set_option linter.unusedVariables false
set_option maxRecDepth 100000

/-- Where each vertex's next arc lies. -/
structure Nx (gl : List Lk) (m : Nat) (nx : List Int) : Prop where
  len : nx.length = m + 1
  at_ : ∀ v : Nat, v < m → ((orderA gl v).length : Int) ≤ rdI nx v ∧ rdI nx v ≤ ((orderA gl (v + 1)).length : Int)
  all : ∀ x ∈ nx, 0 ≤ x ∧ x ≤ 256

def beenA (gl : List Lk) (src : Int) (out : List Int) : List Int := src :: out.map (arcTo gl)
@[reducible] def resB (f : List Int) (n : Int) : V := .tup [.own tI f, .int .i64 n, .int .i64 0]

theorem been_last (gl : List Lk) : ∀ (ws : List Int) (v : Int), (beenA gl v ws)[ws.length]? = some (endA gl v ws)
  | [], v => rfl
  | a :: ws, v => been_last gl ws (arcTo gl a)
theorem been_len (gl : List Lk) (ws : List Int) (v : Int) : (beenA gl v ws).length = ws.length + 1 := by simp [beenA]
theorem been_snoc (gl : List Lk) (ws : List Int) (v a : Int) : beenA gl v (ws ++ [a]) = beenA gl v ws ++ [arcTo gl a] := by simp [beenA]

noncomputable def L1 (k n m0 : Nat) (g : Gr) (cs f lv : List Int) (src dst most n0 : Int) (out nx : List Int) : Option V :=
  f123.l1 k n m0 dst cs src most n0 out (beenA g.2 src out) (startsA g.2 g.1.toNat) (orderA g.2 g.1.toNat) (headsA g.2) lv f nx g.1 g.2
noncomputable def L3 (k n m0 m1 : Nat) (g : Gr) (cs f lv : List Int) (src dst most n0 : Int) (v : Int) (out nx : List Int) : Option V :=
  f123.l3 k n m0 m1 v dst cs src most n0 (startsA g.2 g.1.toNat) (orderA g.2 g.1.toNat) (headsA g.2) lv f nx out (beenA g.2 src out) g.1 g.2
noncomputable def L2 (k n m0 : Nat) (g : Gr) (cs f lv : List Int) (src dst most n0 : Int) (j : Int) (rs out nx : List Int) : Option V :=
  f123.l2 k n m0 (out.length : Int) j cs src dst most n0 (Go.IntKind.i64.wrap (most - n0)) rs out (startsA g.2 g.1.toNat) (orderA g.2 g.1.toNat) (headsA g.2) lv f nx g.1 g.2

theorem L1_eq (k n m0 : Nat) (g : Gr) (cs f lv : List Int) (src dst most n0 : Int) (out nx : List Int) (ho : out.length ≤ 300) : L1 k (n + 1) m0 g cs f lv src dst most n0 out nx =
    bif endA g.2 src out == dst then (bif (out.length : Int) == 0 then some (resB f n0) else L2 k k m0 g cs f lv src dst most n0 0 [] out nx) else L3 k k m0 n g cs f lv src dst most n0 (endA g.2 src out) out nx := by
  unfold L1 L2 L3
  have e : rd (Ty.int Go.IntKind.i64) (beenA g.2 src out) ((out.length : Nat) : Int) = endA g.2 src out := rd_some (t := tI) (been_last g.2 out src)
  rw [f123.l1_eq, been_len, wrap64 (n := ((out.length + 1 : Nat) : Int) - 1) (by omega), show ((out.length + 1 : Nat) : Int) - 1 = (out.length : Int) by omega,
    show decide ((0 : Int) ≤ (out.length : Int) ∧ (out.length : Int) < ((out.length + 1 : Nat) : Int)) = true from decide_eq_true (by omega), kT, show (((out.length : Int).toNat : Nat) : Int) = (out.length : Int) by omega, e]

section
variable {g : Gr} {cs f lv : List Int} (hc : capsMay g cs = true) (hf : withinF f cs = true) (hlv : Lv g.1.toNat lv)

theorem lv_bound {m : Nat} {lv : List Int} (h : Lv m lv) {v : Int} (hv : 0 ≤ v ∧ v < (m : Int)) : -1 ≤ rdI lv v ∧ rdI lv v < (m : Int) := by
  have := h.lo v hv
  omega

include hc hf hlv in
/-- An arc that is looked at: it leads on, or it is passed. -/
theorem L3_arc (k n m0 m1 : Nat) (src dst most n0 : Int) {v : Int} (hv : 0 ≤ v ∧ v < g.1) {out nx : List Int} (ho : out.length ≤ 300) (hn : Nx g.2 g.1.toNat nx) (hlt : rdI nx v < ((orderA g.2 (v.toNat + 1)).length : Int)) :
    ∃ a, a ∈ rowA g.2 v ∧ (orderA g.2 g.1.toNat)[(rdI nx v).toNat]? = some a ∧
      L3 k (n + 1) m0 m1 g cs f lv src dst most n0 v out nx = bif stepsB g.2 cs f lv v a then L1 k m1 m0 g cs f lv src dst most n0 (out ++ [a]) nx else L3 k n m0 m1 g cs f lv src dst most n0 v out (nx.set v.toNat (rdI nx v + 1)) := by
  have hg := caps_graph hc
  have hp := graphMay_parts hg
  have hcl := capsMay_len hc
  have hfl : f.length = cs.length := withinF_len hf
  have hvn : ((v.toNat : Nat) : Int) = v := by omega
  obtain ⟨n1, n2⟩ := hn.at_ v.toNat (by omega)
  rw [hvn] at n1 n2
  have s3 : (orderA g.2 (v.toNat + 1)).length = (orderA g.2 v.toNat).length + (rowA g.2 v).length := by rw [orderA_succ, List.length_append, hvn]
  have hj : (rdI nx v).toNat - (orderA g.2 v.toNat).length < (rowA g.2 v).length := by omega
  have hx := List.getElem?_eq_getElem hj
  have ha := List.getElem_mem hj
  have hO := orderA_get g.2 (m := g.1.toNat) (v := v.toNat) (by omega) (by rw [hvn]; exact hx)
  rw [show (orderA g.2 v.toNat).length + ((rdI nx v).toNat - (orderA g.2 v.toNat).length) = (rdI nx v).toNat by omega] at hO
  generalize (rowA g.2 v)[(rdI nx v).toNat - (orderA g.2 v.toNat).length] = a at hx ha hO
  refine ⟨a, ha, hO, ?_⟩
  have hm := rowA_mem.1 ha
  have ha1 : 0 ≤ a ∧ a < 2 * (g.2.length : Int) := of_decide_eq_true hm.1
  have hto := arcTo_in hg hm.1
  have hr := room_rate hc hf (by rw [hcl]; exact hm.1)
  have hl1 := lv_bound hlv (v := v) (by omega)
  have hl2 := lv_bound hlv (v := arcTo g.2 a) (by omega)
  have hll := hlv.len
  have hOl := idx_lt hO
  have hO4 := orderA_len g.2 (v.toNat + 1)
  have hO5 : (v.toNat + 1) * (2 * g.2.length) ≤ 8 * 32 := Nat.mul_le_mul (by omega) (by omega)
  have e1 : rd (Ty.int Go.IntKind.i64) nx ((v.toNat : Nat) : Int) = rdI nx v := rdI_nat _ _
  have e2 : rd (Ty.int Go.IntKind.i64) (startsA g.2 g.1.toNat) (((v + 1).toNat : Nat) : Int) = ((orderA g.2 (v.toNat + 1)).length : Int) := by
    rw [show (v + 1).toNat = v.toNat + 1 by omega]
    exact rd_some (t := tI) (startsA_get g.2 (by omega))
  have e3 : rd (Ty.int Go.IntKind.i64) (orderA g.2 g.1.toNat) (((rdI nx v).toNat : Nat) : Int) = a := rd_some (t := tI) hO
  have e4 : rd (Ty.int Go.IntKind.i64) (headsA g.2) ((a.toNat : Nat) : Int) = arcTo g.2 a := rd_some (t := tI) (headsA_get hm.1)
  have e5 : rd (Ty.int Go.IntKind.i64) lv (((arcTo g.2 a).toNat : Nat) : Int) = rdI lv (arcTo g.2 a) := rdI_nat _ _
  have e6 : rd (Ty.int Go.IntKind.i64) lv ((v.toNat : Nat) : Int) = rdI lv v := rdI_nat _ _
  have w1 : Go.IntKind.i64.wrap (v + 1) = v + 1 := wrap64 (by omega)
  have w2 : Go.IntKind.i64.wrap (rdI lv v + 1) = rdI lv v + 1 := wrap64 (by omega)
  have w3 : Go.IntKind.i64.wrap (rdI nx v + 1) = rdI nx v + 1 := wrap64 (by omega)
  have hnl := hn.len
  have c1 : decide ((0 : Int) ≤ v ∧ v < (nx.length : Int)) = true := decide_eq_true (by omega)
  have c2 : decide ((0 : Int) ≤ v + 1 ∧ v + 1 < ((startsA g.2 g.1.toNat).length : Int)) = true := decide_eq_true (by rw [startsA_len]; omega)
  have c3 : decide (rdI nx v < ((orderA g.2 (v.toNat + 1)).length : Int)) = true := decide_eq_true hlt
  have c4 : decide ((0 : Int) ≤ rdI nx v ∧ rdI nx v < ((orderA g.2 g.1.toNat).length : Int)) = true := decide_eq_true (by omega)
  have c5 : decide ((0 : Int) ≤ a ∧ a < ((headsA g.2).length : Int)) = true := decide_eq_true (by rw [headsA_len]; omega)
  have c6 : decide ((0 : Int) ≤ arcTo g.2 a ∧ arcTo g.2 a < (lv.length : Int)) = true := decide_eq_true (by omega)
  have c7 : decide ((0 : Int) ≤ v ∧ v < (lv.length : Int)) = true := decide_eq_true (by omega)
  have c8 : decide (cs.length ≤ 16 ∧ f.length = cs.length) = true := decide_eq_true ⟨by omega, hfl⟩
  have c9 : arcIn cs.length a = true := by rw [hcl]; exact hm.1
  have c10 : decide ((out ++ [a]).length * 8 ≤ 140737488355328) = true := decide_eq_true (by rw [List.length_append, List.length_singleton]; omega)
  have c11 : decide ((beenA g.2 src out ++ [arcTo g.2 a]).length * 8 ≤ 140737488355328) = true := decide_eq_true (by rw [List.length_append, List.length_singleton, been_len]; omega)
  unfold L3 L1
  rw [f123.l3_eq]
  simp only [w1, e1, e2, e3, e4, e5, e6, w2, w3, c1, c2, c3, c4, c5, c6, c7, c8, c9, c10, c11, hr, kT, cT, Bool.true_and, bS, both_self]
  unfold stepsB
  rw [been_snoc]
  cases h1 : rdI lv (arcTo g.2 a) == rdI lv v + 1 with
  | false => rw [cF, Bool.false_and, cF]
  | true =>
    rw [cT, Bool.true_and]

omit hf hlv in
include hc in
/-- No arc leads on: none is left, or one goes back. -/
theorem L3_end (k n m0 m1 : Nat) (src dst most n0 : Int) {v : Int} (hv : 0 ≤ v ∧ v < g.1) {out nx : List Int} (ho : out.length ≤ 300) (hn : Nx g.2 g.1.toNat nx) (he : rdI nx v = ((orderA g.2 (v.toNat + 1)).length : Int)) :
    (out = [] → L3 k (n + 1) m0 m1 g cs f lv src dst most n0 v out nx = some (resB f n0)) ∧
    ∀ ws b, out = ws ++ [b] → (0 ≤ endA g.2 src ws ∧ endA g.2 src ws < g.1) → L3 k (n + 1) m0 m1 g cs f lv src dst most n0 v out nx = L1 k m1 m0 g cs f lv src dst most n0 ws (nx.set (endA g.2 src ws).toNat (rdI nx (endA g.2 src ws) + 1)) := by
  have hg := caps_graph hc
  have hp := graphMay_parts hg
  have hnl := hn.len
  have e1 : rd (Ty.int Go.IntKind.i64) nx ((v.toNat : Nat) : Int) = rdI nx v := rdI_nat _ _
  have e2 : rd (Ty.int Go.IntKind.i64) (startsA g.2 g.1.toNat) (((v + 1).toNat : Nat) : Int) = ((orderA g.2 (v.toNat + 1)).length : Int) := by
    rw [show (v + 1).toNat = v.toNat + 1 by omega]
    exact rd_some (t := tI) (startsA_get g.2 (by omega))
  have w1 : Go.IntKind.i64.wrap (v + 1) = v + 1 := wrap64 (by omega)
  have c1 : decide ((0 : Int) ≤ v ∧ v < (nx.length : Int)) = true := decide_eq_true (by omega)
  have c2 : decide ((0 : Int) ≤ v + 1 ∧ v + 1 < ((startsA g.2 g.1.toNat).length : Int)) = true := decide_eq_true (by rw [startsA_len]; omega)
  have c3 : decide (((orderA g.2 (v.toNat + 1)).length : Int) < ((orderA g.2 (v.toNat + 1)).length : Int)) = false := decide_eq_false (by omega)
  constructor
  · rintro rfl
    unfold L3
    rw [f123.l3_eq]
    simp only [w1, e1, e2, he, c1, c2, c3, kT, cF]
    rw [show (((([] : List Int).length : Nat) : Int) == 0) = true by rfl, cT]
  · rintro ws b rfl hu
    have hl : (ws ++ [b]).length = ws.length + 1 := by simp
    rw [hl] at ho
    have hbl : (beenA g.2 src (ws ++ [b])).length = ws.length + 2 := by rw [been_len, hl]
    have f1 : Go.IntKind.i64.wrap (((ws.length + 1 : Nat) : Int) - 1) = (ws.length : Int) := by rw [wrap64 (by omega)]; omega
    have f2 : Go.IntKind.i64.wrap (((ws.length + 2 : Nat) : Int) - 1) = ((ws.length + 1 : Nat) : Int) := by rw [wrap64 (by omega)]; omega
    have f3 : Go.IntKind.i64.wrap ((((((ws.length + 1 : Nat) : Int)).toNat - 0 : Nat) : Int) - 1) = (ws.length : Int) := by rw [wrap64 (by omega)]; omega
    have f4 : ((0 + ((ws.length : Int)).toNat : Nat) : Int) = ((ws.length : Nat) : Int) := by omega
    have f5 : rd (Ty.int Go.IntKind.i64) (beenA g.2 src (ws ++ [b])) ((ws.length : Nat) : Int) = endA g.2 src ws := by
      refine rd_some (t := tI) ?_
      rw [been_snoc, List.getElem?_append_left (by rw [been_len]; omega)]
      exact been_last g.2 ws src
    have f6 : rd (Ty.int Go.IntKind.i64) nx (((endA g.2 src ws).toNat : Nat) : Int) = rdI nx (endA g.2 src ws) := rdI_nat _ _
    have h6 := hn.all (rdI nx (endA g.2 src ws)) (List.mem_of_getElem? (rdI_get (by omega)))
    have f7 : Go.IntKind.i64.wrap (rdI nx (endA g.2 src ws) + 1) = rdI nx (endA g.2 src ws) + 1 := wrap64 (by omega)
    have f8 : List.take (((ws.length : Int)).toNat - 0) (List.drop 0 (ws ++ [b])) = ws := by
      rw [List.drop_zero, Int.toNat_natCast, Nat.sub_zero, List.take_left']
      rfl
    have f9 : List.take ((((ws.length + 1 : Nat) : Int)).toNat - 0) (List.drop 0 (beenA g.2 src (ws ++ [b]))) = beenA g.2 src ws := by
      rw [List.drop_zero, Int.toNat_natCast, Nat.sub_zero, been_snoc, List.take_left']
      exact been_len g.2 ws src
    have d1 : decide ((0 : Int) ≤ 0 ∧ 0 ≤ (ws.length : Int)) = true := decide_eq_true (by omega)
    have d2 : decide ((ws.length : Int) ≤ ((ws.length + 1 : Nat) : Int)) = true := decide_eq_true (by omega)
    have d3 : decide ((0 : Int) ≤ 0 ∧ 0 ≤ ((ws.length + 1 : Nat) : Int)) = true := decide_eq_true (by omega)
    have d4 : decide (((ws.length + 1 : Nat) : Int) ≤ ((ws.length + 2 : Nat) : Int)) = true := decide_eq_true (by omega)
    have d5 : decide ((0 : Int) ≤ (ws.length : Int) ∧ (ws.length : Int) < (((((ws.length + 1 : Nat) : Int)).toNat - 0 : Nat) : Int)) = true := decide_eq_true (by omega)
    have d6 : decide ((0 : Int) ≤ endA g.2 src ws ∧ endA g.2 src ws < (nx.length : Int)) = true := decide_eq_true (by omega)
    have d7 : (((ws.length + 1 : Nat) : Int) == 0) = false := by simp; omega
    unfold L3 L1
    rw [f123.l3_eq, hl, hbl]
    simp only [w1, e1, e2, he, c1, c2, c3, kT, cF]
    rw [d7, cF, f1, f2, f3, f4, f5, f6, f7, f8, f9, d1, d2, d3, d4, d5, d6, kT, kT, kT, kT, kT, kT, kT]

end
end

section
set_option linter.unusedVariables false

/-- Vertices gone through are dead ends, if D. -/
structure WSt (g : Gr) (cs f lv : List Int) (src dst : Int) (D : Prop) (out nx : List Int) : Prop where
  nxOk : Nx g.2 g.1.toNat nx
  way : WayOk g.2 cs f lv src out
  ptr : ∀ a ∈ out, (orderA g.2 g.1.toNat)[(rdI nx (arcFrom g.2 a)).toNat]? = some a ∧ rdI nx (arcFrom g.2 a) < ((orderA g.2 ((arcFrom g.2 a).toNat + 1)).length : Int)
  dead : D → ∀ v, 0 ≤ v ∧ v < g.1 → ∀ j : Nat, (orderA g.2 v.toNat).length ≤ j → (j : Int) < rdI nx v → ∀ a, (orderA g.2 g.1.toNat)[j]? = some a → stepsB g.2 cs f lv v a = true → ¬ LReach g.2 cs f lv dst (arcTo g.2 a)

theorem sum_set : ∀ {l : List Int} {i : Nat} {x : Int}, l[i]? = some x → (l.set i (x + 1)).sum = l.sum + 1
  | y :: l, 0, x, h => by
    simp only [List.getElem?_cons_zero, Option.some.injEq] at h
    subst h
    simp only [List.set_cons_zero, List.sum_cons]
    omega
  | y :: l, i + 1, x, h => by
    have := sum_set (l := l) (i := i) (by simpa using h)
    simp only [List.set_cons_succ, List.sum_cons, this]
    omega
  | [], _, _, h => by simp at h
theorem sum_le_len {c : Int} : ∀ {l : List Int}, (∀ x ∈ l, x ≤ c) → l.sum ≤ l.length * c
  | [], _ => by simp
  | y :: l, h => by
    have h1 := h y (by simp)
    have h2 := sum_le_len (l := l) fun x hx => h x (by simp [hx])
    rw [List.sum_cons, List.length_cons, show ((l.length + 1 : Nat) : Int) * c = (l.length : Int) * c + c by rw [Int.natCast_add, Int.add_mul]; simp]
    omega

section
variable {g : Gr} {cs f lv : List Int} {src dst : Int} {D : Prop} (hc : capsMay g cs = true) (hf : withinF f cs = true) (hlv : Lv g.1.toNat lv) (hsrc : 0 ≤ src ∧ src < g.1) (hlv0 : rdI lv src = 0)

theorem Nx.bound {gl : List Lk} {m : Nat} {nx : List Int} (h : Nx gl m nx) (hm : m ≤ 8) : nx.sum ≤ 2304 := by
  have := sum_le_len (c := 256) fun x hx => (h.all x hx).2
  have hl := h.len
  rw [hl] at this
  have : ((m + 1 : Nat) : Int) * 256 ≤ 9 * 256 := Int.mul_le_mul_of_nonneg_right (by omega) (by omega)
  omega

include hc in
/-- One vertex's arc is passed. -/
theorem Nx.pass {nx : List Int} (h : Nx g.2 g.1.toNat nx) {v : Int} (hv : 0 ≤ v ∧ v < g.1) (hlt : rdI nx v < ((orderA g.2 (v.toNat + 1)).length : Int)) :
    Nx g.2 g.1.toNat (nx.set v.toNat (rdI nx v + 1)) ∧ (nx.set v.toNat (rdI nx v + 1)).sum = nx.sum + 1 ∧ ∀ u, 0 ≤ u ∧ u < g.1 → rdI (nx.set v.toNat (rdI nx v + 1)) u = bif v == u then rdI nx v + 1 else rdI nx u := by
  have hl := h.len
  have hp := graphMay_parts (caps_graph hc)
  have at_ : ∀ u, 0 ≤ u ∧ u < g.1 → rdI (nx.set v.toNat (rdI nx v + 1)) u = bif v == u then rdI nx v + 1 else rdI nx u := fun u hu => rdI_set (by omega) (by omega)
  have hO4 := orderA_len g.2 (v.toNat + 1)
  have hO5 : (v.toNat + 1) * (2 * g.2.length) ≤ 8 * 32 := Nat.mul_le_mul (by omega) (by omega)
  have h0 := (h.all _ (List.mem_of_getElem? (rdI_get (f := nx) (i := v) (by omega)))).1
  refine ⟨⟨by simpa using hl, fun u hu => ?_, fun x hx => ?_⟩, sum_set (rdI_get (by omega)), at_⟩
  · rw [at_ u (by omega)]
    have := h.at_ u hu
    by_cases he : v = (u : Int)
    · subst he
      rw [show ((u : Int) == (u : Int)) = true by simp, cT]
      simp only [Int.toNat_natCast] at hlt
      omega
    · rw [show (v == (u : Int)) = false by simpa using he, cF]
      exact this
  · obtain hx | rfl := List.mem_or_eq_of_mem_set hx
    · exact h.all x hx
    · omega

include hc in
theorem WSt.pass {out nx : List Int} (h : WSt g cs f lv src dst D out nx) {v a : Int} (hv : 0 ≤ v ∧ v < g.1) (hlt : rdI nx v < ((orderA g.2 (v.toNat + 1)).length : Int))
    (ha : (orderA g.2 g.1.toNat)[(rdI nx v).toNat]? = some a) (hdead : D → stepsB g.2 cs f lv v a = true → ¬ LReach g.2 cs f lv dst (arcTo g.2 a)) {ws : List Int} (hw : WayOk g.2 cs f lv src ws) (hws : ∀ c ∈ ws, c ∈ out)
    (hb : ∀ c ∈ ws, (0 ≤ arcFrom g.2 c ∧ arcFrom g.2 c < g.1) ∧ arcFrom g.2 c ≠ v) : WSt g cs f lv src dst D ws (nx.set v.toNat (rdI nx v + 1)) ∧ (nx.set v.toNat (rdI nx v + 1)).sum = nx.sum + 1 := by
  obtain ⟨h1, h2, h3⟩ := h.nxOk.pass hc hv hlt
  refine ⟨⟨h1, hw, fun c hc' => ?_, fun hD u hu j hj hju b hbj hst => ?_⟩, h2⟩
  · obtain ⟨c1, c2⟩ := hb c hc'
    rw [h3 _ c1, show (v == arcFrom g.2 c) = false from beq_eq_false_iff_ne.2 (Ne.symm c2), cF]
    exact h.ptr c (hws c hc')
  · rw [h3 u hu] at hju
    by_cases he : v = u
    · subst he
      rw [show (v == v) = true by simp, cT] at hju
      by_cases hl : (j : Int) < rdI nx v
      · exact h.dead hD v hu j hj hl b hbj hst
      · obtain rfl : j = (rdI nx v).toNat := by omega
        obtain rfl := Option.some.inj (ha.symm.trans hbj)
        exact hdead hD hst
    · rw [show (v == u) = false by simpa using he, cF] at hju
      exact h.dead hD u hu j hj hju b hbj hst

theorem arcFrom_in {g : Gr} (hg : graphMay g = true) {a : Int} (ha : arcIn g.2.length a = true) : 0 ≤ arcFrom g.2 a ∧ arcFrom g.2 a < g.1 := by
  have := link_at hg (lk_get ha)
  unfold arcFrom
  cases backB a with
  | true => rw [cT]; exact this.2.1
  | false => rw [cF]; exact this.1

include hc hf hlv in
theorem L3_is (Q : Option V → Prop) (k m0 m1 : Nat) (most n0 : Int) {v : Int} (hv : 0 ≤ v ∧ v < g.1) {out : List Int} (ho : out.length ≤ 8) (hev : endA g.2 src out = v) : ∀ (n : Nat) (nx : List Int), WSt g cs f lv src dst D out nx → ((orderA g.2 (v.toNat + 1)).length : Int) - rdI nx v < n →
    (∀ nx' a, WSt g cs f lv src dst D out nx' → nx.sum ≤ nx'.sum → a ∈ rowA g.2 v → stepsB g.2 cs f lv v a = true → (orderA g.2 g.1.toNat)[(rdI nx' v).toNat]? = some a → rdI nx' v < ((orderA g.2 (v.toNat + 1)).length : Int) → Q (L1 k m1 m0 g cs f lv src dst most n0 (out ++ [a]) nx')) →
    (∀ nx', WSt g cs f lv src dst D out nx' → rdI nx' v = ((orderA g.2 (v.toNat + 1)).length : Int) → out = [] → Q (some (resB f n0))) →
    (∀ nx' ws b, WSt g cs f lv src dst D out nx' → nx.sum ≤ nx'.sum → rdI nx' v = ((orderA g.2 (v.toNat + 1)).length : Int) → out = ws ++ [b] → Q (L1 k m1 m0 g cs f lv src dst most n0 ws (nx'.set (endA g.2 src ws).toNat (rdI nx' (endA g.2 src ws) + 1)))) →
    (0 ≤ src ∧ src < g.1) → Q (L3 k n m0 m1 g cs f lv src dst most n0 v out nx)
  | 0, nx, h, hn, _, _, _, _ => by
    have := (h.nxOk.at_ v.toNat (by omega)).2
    rw [show ((v.toNat : Nat) : Int) = v by omega] at this
    omega
  | n + 1, nx, h, hn, h1, h2, h3, hs => by
    have hg := caps_graph hc
    have hb := h.nxOk.at_ v.toNat (by omega)
    rw [show ((v.toNat : Nat) : Int) = v by omega] at hb
    by_cases hlt : rdI nx v < ((orderA g.2 (v.toNat + 1)).length : Int)
    · obtain ⟨a, ha, hO, he⟩ := L3_arc hc hf hlv k n m0 m1 src dst most n0 hv (out := out) (by omega) h.nxOk hlt
      rw [he]
      cases hst : stepsB g.2 cs f lv v a with
      | true =>
        rw [cT]
        exact h1 nx a h (Int.le_refl _) ha hst hO hlt
      | false =>
        rw [cF]
        obtain ⟨p1, p2⟩ := h.pass hc hv hlt hO (fun _ h' => by rw [hst] at h'; cases h') h.way (fun c hc => hc) (fun c hc' => by
          obtain ⟨c1, _, c3, _, _⟩ := h.way.below c hc'
          refine ⟨arcFrom_in hg c1, fun e => ?_⟩
          rw [hev, e] at c3
          omega)
        have p3 : rdI (nx.set v.toNat (rdI nx v + 1)) v = rdI nx v + 1 := by
          rw [(h.nxOk.pass hc hv hlt).2.2 v hv, show (v == v) = true by simp, cT]
        exact L3_is Q k m0 m1 most n0 hv ho hev n _ p1 (by rw [p3]; omega) (fun nx' a w1 w2 => h1 nx' a w1 (by omega)) h2 (fun nx' ws b w1 w2 => h3 nx' ws b w1 (by omega)) hs
    · have he : rdI nx v = ((orderA g.2 (v.toNat + 1)).length : Int) := by omega
      obtain ⟨e1, e2⟩ := L3_end hc (f := f) (lv := lv) k n m0 m1 src dst most n0 hv (out := out) (by omega) h.nxOk he
      rcases List.eq_nil_or_concat out with h0 | ⟨ws, b, h0⟩
      · rw [e1 h0]
        exact h2 nx h he h0
      · rw [List.concat_eq_append] at h0
        have hw := h.way
        rw [h0] at hw
        rw [e2 ws b h0 (hw.front.1.verts hg hs)]
        exact h3 nx ws b h (Int.le_refl _) he h0

/-- Where all arcs of a vertex are passed. -/
theorem WSt.deadEnd {out nx : List Int} (h : WSt g cs f lv src dst D out nx) {v : Int} (hv : 0 ≤ v ∧ v < g.1) (he : rdI nx v = ((orderA g.2 (v.toNat + 1)).length : Int)) (hne : v ≠ dst) (hD : D) : ¬ LReach g.2 cs f lv dst v := by
  intro hr
  cases hr with
  | here => exact hne rfl
  | step ha hs hr =>
    obtain ⟨j, hj⟩ := List.mem_iff_getElem?.1 ha
    have hvn : ((v.toNat : Nat) : Int) = v := by omega
    have hO := orderA_get g.2 (m := g.1.toNat) (v := v.toNat) (by omega) (by rw [hvn]; exact hj)
    have s3 : (orderA g.2 (v.toNat + 1)).length = (orderA g.2 v.toNat).length + (rowA g.2 v).length := by rw [orderA_succ, List.length_append, hvn]
    have := idx_lt hj
    exact h.dead hD v hv _ (by omega) (by omega) _ hO hs hr

include hc hf hlv hsrc hlv0 in
theorem L1_is (Q : Option V → Prop) (k m0 : Nat) (hk : 300 ≤ k) (most n0 : Int) (hne : src ≠ dst)
    (hres : ∀ out nx, WSt g cs f lv src dst D out nx → endA g.2 src out = dst → out ≠ [] → out.length ≤ 8 → Q (L2 k k m0 g cs f lv src dst most n0 0 [] out nx))
    (hnone : (D → ¬ LReach g.2 cs f lv dst src) → Q (some (resB f n0))) : ∀ (n : Nat) (out nx : List Int), WSt g cs f lv src dst D out nx → 2 * (2304 - nx.sum) + 8 - out.length < n → Q (L1 k n m0 g cs f lv src dst most n0 out nx)
  | 0, out, nx, h, hn => by
    have hg := caps_graph hc
    have hp := graphMay_parts hg
    have := h.nxOk.bound (by omega)
    have hl := h.way.lv
    have hv := h.way.verts hg hsrc
    have := lv_bound hlv (v := endA g.2 src out) (by omega)
    omega
  | n + 1, out, nx, h, hn => by
    have hg := caps_graph hc
    have hp := graphMay_parts hg
    have hB := h.nxOk.bound (by omega)
    have hl := h.way.lv
    have hv := h.way.verts hg hsrc
    have hlb := lv_bound hlv (v := endA g.2 src out) (by omega)
    have ho : out.length ≤ 7 := by omega
    have hO4 := orderA_len g.2 ((endA g.2 src out).toNat + 1)
    have hO5 : ((endA g.2 src out).toNat + 1) * (2 * g.2.length) ≤ 8 * 32 := Nat.mul_le_mul (by omega) (by omega)
    have h0 := (h.nxOk.all _ (List.mem_of_getElem? (rdI_get (f := nx) (i := endA g.2 src out) (by have := h.nxOk.len; omega)))).1
    rw [L1_eq k n m0 g cs f lv src dst most n0 out nx (by omega)]
    cases hd : endA g.2 src out == dst with
    | true =>
      have hd := eq_of_beq hd
      have hne' : out ≠ [] := by
        rintro rfl
        exact hne hd
      rw [cT, show ((out.length : Int) == 0) = false by have := List.length_pos_iff.2 hne'; simp; omega, cF]
      exact hres out nx h hd hne' (by omega)
    | false =>
      have hd := ne_of_beq_false hd
      rw [cF]
      refine L3_is hc hf hlv Q k m0 n most n0 hv (by omega) rfl k nx h (by omega) (fun nx' a w1 w2 w3 w4 w5 w6 => ?_) (fun nx' w1 w2 w3 => ?_) (fun nx' ws b w1 w2 w3 w4 => ?_) hsrc
      · refine L1_is Q k m0 hk most n0 hne hres hnone n (out ++ [a]) nx' ⟨w1.nxOk, h.way.snoc w3 w4, fun c hc' => ?_, w1.dead⟩ (by rw [List.length_append, List.length_singleton]; omega)
        rcases List.mem_append.1 hc' with hc' | hc'
        · exact w1.ptr c hc'
        · obtain rfl : c = a := by simpa using hc'
          rw [(rowA_mem.1 w3).2]
          exact ⟨w5, w6⟩
      · subst w3
        exact hnone fun hD => w1.deadEnd hsrc w2 hne hD
      · have hw := h.way
        rw [w4] at hw
        obtain ⟨q1, q2, q3⟩ := hw.front
        have hu := q1.verts hg hsrc
        obtain ⟨r1, r2⟩ := w1.ptr b (by simp [w4])
        have hbm := rowA_mem.1 q2
        rw [hbm.2] at r1 r2
        have hend : endA g.2 src out = arcTo g.2 b := by rw [w4, endA_snoc]
        obtain ⟨p1, p2⟩ := w1.pass hc hu r2 r1 (fun hD _ => by
          rw [← hend]
          exact w1.deadEnd hv w3 hd hD) q1 (fun c hc' => by simp [w4, hc']) (fun c hc' => by
          obtain ⟨c1, _, c3, _, _⟩ := q1.below c hc'
          refine ⟨arcFrom_in hg c1, fun e => ?_⟩
          rw [e] at c3
          omega)
        exact L1_is Q k m0 hk most n0 hne hres hnone n ws _ p1 (by rw [p2]; have : out.length = ws.length + 1 := by simp [w4]
                                                                   omega)

end
end

section
set_option linter.unusedVariables false
set_option maxRecDepth 100000

/-- A flow that nothing comes into the source of. -/
structure FlowOk (g : Gr) (cs f : List Int) (src dst : Int) : Prop where
  within : withinF f cs = true
  still : ∀ v, 0 ≤ v ∧ v < g.1 → v ≠ src → v ≠ dst → gainV g.2 f v = 0
  noIn : ∀ i : Int, 0 ≤ i ∧ i < (g.2.length : Int) → (lk g.2 i).2.1 = src → rdI f i = 0

theorem gain_nonneg {src : Int} : ∀ {gl : List Lk} {f : List Int}, f.length = gl.length → (∀ i : Int, 0 ≤ i ∧ i < (gl.length : Int) → 0 ≤ rdI f i) → (∀ i : Int, 0 ≤ i ∧ i < (gl.length : Int) → (lk gl i).2.1 = src → rdI f i = 0) → 0 ≤ gainV gl f src
  | [], _, _, _, _ => by simp [gainV]
  | l :: gl, [], h, _, _ => by simp at h
  | l :: gl, x :: f, h, h1, h2 => by
    have s : ∀ i : Int, 0 ≤ i → rdI (x :: f) (i + 1) = rdI f i ∧ lk (l :: gl) (i + 1) = lk gl i := fun i hi => by
      unfold rdI lk rd
      rw [show (i + 1).toNat = i.toNat + 1 by omega]
      exact ⟨rfl, rfl⟩
    have c1 : 0 ≤ x := h1 0 (by simp only [List.length_cons]; omega)
    have c2 : l.2.1 = src → x = 0 := h2 0 (by simp only [List.length_cons]; omega)
    have ih := gain_nonneg (src := src) (gl := gl) (f := f) (by simpa using h) (fun i hi => by
      have := h1 (i + 1) (by simp only [List.length_cons]; omega)
      rwa [(s i hi.1).1] at this) (fun i hi he => by
      have := h2 (i + 1) (by simp only [List.length_cons]; omega)
      rw [(s i hi.1).1, (s i hi.1).2] at this
      exact this he)
    simp only [gainV]
    cases e1 : l.1 == src <;> cases e2 : l.2.1 == src <;> simp only [cT, cF] <;> first | omega | (have := c2 (eq_of_beq e2); omega)

theorem FlowOk.may {g : Gr} {cs f : List Int} {src dst : Int} (hc : capsMay g cs = true) (h : FlowOk g cs f src dst) (hs : hasV g.1 src = true) (hd : hasV g.1 dst = true) (hne : src ≠ dst) : mayF g cs f src dst = true := by
  have hl := withinF_len h.within
  have hcl := capsMay_len hc
  have h0 : 0 ≤ gainV g.2 f src := gain_nonneg (by omega) (fun i hi => (within_at h.within (by omega)).1) h.noIn
  unfold mayF liesB
  rw [hc, h.within, hs, hd, show (src == dst) = false by simpa using hne]
  simp only [Bool.true_and, Bool.not_false, List.all_eq_true]
  intro v hv
  rw [upto_mem] at hv
  have hp := graphMay_parts (caps_graph hc)
  unfold stillB
  by_cases e1 : v = src
  · subst e1
    rw [show (v == v) = true by simp, show (v != v) = false by simp, decide_eq_false (by omega : ¬ gainV g.2 f v < 0)]
    rfl
  · rw [show (v == src) = false by simpa using e1]
    by_cases e2 : v = dst
    · rw [show (v != dst) = false by simpa using e2]
      simp
    · rw [show (gainV g.2 f v != 0) = false by simpa using h.still v (by omega) e1 e2]
      simp

theorem lk_arc {gl : List Lk} {a i : Int} (h : arcL a = i) : (backB a = true ∧ arcFrom gl a = (lk gl i).2.1) ∨ (backB a = false ∧ arcTo gl a = (lk gl i).2.1) := by
  unfold arcFrom arcTo
  rw [h]
  cases backB a
  · exact .inr ⟨rfl, cF⟩
  · exact .inl ⟨rfl, cT⟩

section
variable {g : Gr} {cs f lv : List Int} {src dst : Int} (hc : capsMay g cs = true) (hlv : Lv g.1.toNat lv) (hsrc : 0 ≤ src ∧ src < g.1) (hlv0 : rdI lv src = 0)

include hc hlv0 in
theorem FlowOk.moves (h : FlowOk g cs f src dst) {ws : List Int} (hw : WayOk g.2 cs f lv src ws) (hend : endA g.2 src ws = dst) (hne : src ≠ dst) {b : Int} (hb : 0 ≤ b) (hr : ∀ a ∈ ws, b ≤ roomA cs f a) :
    FlowOk g cs (R.moves b f ws) src dst ∧ gainV g.2 (R.moves b f ws) src = gainV g.2 f src + b ∧ moveL cs b f ws = some (R.moves b f ws) := by
  have hl := withinF_len h.within
  have hcl := capsMay_len hc
  have hin : ∀ a ∈ ws, arcIn g.2.length a = true := fun a ha => (hw.below a ha).1
  have hm : moveL cs b f ws = some (R.moves b f ws) := moveL_moves hl (fun a ha => ⟨by rw [hcl]; exact hin a ha, hr a ha⟩) hw.links
  have hg := fun v => gain_moves (b := b) (v := v) (f := f) (by omega) hw
  refine ⟨⟨moveL_within hb h.within (List.all_eq_true.2 fun a ha => by rw [hcl]; exact hin a ha) hm, fun v hv h1 h2 => ?_, fun i hi he => ?_⟩, ?_, hm⟩
  · rw [hg v, h.still v hv h1 h2, hend, show (src == v) = false by simpa using Ne.symm h1, show (dst == v) = false by simpa using Ne.symm h2, cF]
    rfl
  · rw [moves_other (n := g.2.length) (by omega) hin hi (fun a ha e => ?_)]
    · exact h.noIn i hi he
    · obtain ⟨_, c2, _, c4, c5⟩ := hw.below a ha
      rcases lk_arc (gl := g.2) e with ⟨e1, e2⟩ | ⟨e1, e2⟩
      · unfold roomA at c5
        rw [e1, cT, e, h.noIn i hi he] at c5
        omega
      · rw [e2, he, hlv0] at c4
        rw [hlv0] at c2
        omega
  · rw [hg src, hend, show (src == src) = true by simp, show (dst == src) = false by simpa using Ne.symm hne, cT, cF]
    omega

noncomputable def L0 (k n : Nat) (g : Gr) (cs f lv : List Int) (src dst most n0 : Int) (nx : List Int) : Option V :=
  f123.l0 k n cs src dst most n0 g.1 g.2 (startsA g.2 g.1.toNat) (orderA g.2 g.1.toNat) (headsA g.2) lv f nx

include hc in
theorem L2_is (hf : withinF f cs = true) (k m0 : Nat) (most n0 : Int) {out nx : List Int} (ho : out.length ≤ 8) (hin : ∀ a ∈ out, arcIn g.2.length a = true) : ∀ (n i : Nat), i ≤ out.length → out.length < n + i →
    L2 k n m0 g cs f lv src dst most n0 (i : Int) ((out.take i).map (roomA cs f)) out nx =
      L0 k m0 g cs (moveOf g cs f ((out.map (roomA cs f)).foldl min (Go.IntKind.i64.wrap (most - n0))) out).1 lv src dst most (Go.IntKind.i64.wrap (n0 + (out.map (roomA cs f)).foldl min (Go.IntKind.i64.wrap (most - n0)))) nx
  | 0, i, h, h' => by omega
  | n + 1, i, h, h' => by
    have hfl : f.length = cs.length := withinF_len hf
    have hcl := capsMay_len hc
    have hp := graphMay_parts (caps_graph hc)
    unfold L2 L0
    rw [f123.l2_eq]
    by_cases hlt : i < out.length
    · have hx := List.getElem?_eq_getElem hlt
      have ha := hin _ (List.getElem_mem hlt)
      have e1 : rd (Ty.int Go.IntKind.i64) out (((i : Int).toNat : Nat) : Int) = out[i] := rd_some (t := tI) (by rw [Int.toNat_natCast]; exact hx)
      have c1 : decide ((i : Int) < (out.length : Int)) = true := decide_eq_true (by omega)
      have c2 : decide ((0 : Int) ≤ (i : Int) ∧ (i : Int) < (out.length : Int)) = true := decide_eq_true (by omega)
      have c8 : decide (cs.length ≤ 16 ∧ f.length = cs.length) = true := decide_eq_true ⟨by omega, hfl⟩
      have c9 : arcIn cs.length out[i] = true := by rw [hcl]; exact ha
      have hr := room_rate hc hf c9
      have c10 : decide (((out.take i).map (roomA cs f) ++ [roomA cs f out[i]]).length * 8 ≤ 140737488355328) = true := decide_eq_true (by rw [List.length_append, List.length_map, List.length_take, List.length_singleton]; omega)
      have w1 : Go.IntKind.i64.wrap ((i : Int) + 1) = ((i + 1 : Nat) : Int) := wrap_succ (by omega)
      rw [c1, cT, c2, kT, e1, c8, c9, hr, Bool.true_and, Bool.true_and, kT, bS, c10, kT, w1]
      have := L2_is hf k m0 most n0 (nx := nx) ho hin n (i + 1) (by omega) (by omega)
      unfold L2 L0 at this
      rw [← this, List.take_add_one, hx, List.map_append]
      rfl
    · obtain rfl : i = out.length := by omega
      have c1 : decide ((out.length : Int) < (out.length : Int)) = false := decide_eq_false (by omega)
      have c2 : decide (((out.take out.length).map (roomA cs f)).length < 4611686018427387904) = true := decide_eq_true (by rw [List.length_map, List.length_take]; omega)
      rw [c1, cF, c2, kT, bS, both_self, both_self, both_self, List.take_length]

/-- What a block comes to. -/
structure BlockOk (g : Gr) (cs f : List Int) (src dst most : Int) (x : List Int × Int) : Prop where
  flow : FlowOk g cs x.1 src dst
  gain : gainV g.2 x.1 src = gainV g.2 f src + x.2
  le : 0 ≤ x.2 ∧ x.2 ≤ most
  none : x.2 = 0 → 0 < most → x.1 = f ∧ rdI (levelsOf g cs f src) dst < 0

theorem Nx.start {g : Gr} (hg : graphMay g = true) : Nx g.2 g.1.toNat (startsA g.2 g.1.toNat) := by
  have hp := graphMay_parts hg
  have at_ : ∀ i : Nat, i ≤ g.1.toNat → rdI (startsA g.2 g.1.toNat) (i : Int) = ((orderA g.2 i).length : Int) := fun i hi => rd_some (t := tI) (startsA_get g.2 hi)
  refine ⟨startsA_len _ _, fun v hv => ?_, fun x hx => ?_⟩
  · rw [at_ v (by omega)]
    rw [orderA_succ, List.length_append]
    omega
  · unfold startsA at hx
    obtain ⟨i, hi, rfl⟩ := List.mem_map.1 hx
    have h1 := orderA_len g.2 i
    have h2 := List.mem_range.1 hi
    have h3 : i * (2 * g.2.length) ≤ 8 * 32 := Nat.mul_le_mul (by omega) (by omega)
    omega

include hc hsrc in
theorem L0_is (k : Nat) (hk : 6000 ≤ k) (most : Int) (hm : 0 ≤ most ∧ most ≤ maxRate) (hne : src ≠ dst) (hdst : 0 ≤ dst ∧ dst < g.1) (f0 : List Int) : ∀ (n : Nat) (n0 : Int) (f nx : List Int), most - n0 < n → (0 ≤ n0 ∧ n0 ≤ most) → FlowOk g cs f src dst → gainV g.2 f src = gainV g.2 f0 src + n0 → Nx g.2 g.1.toNat nx →
    (n0 = 0 → f = f0 ∧ nx = startsA g.2 g.1.toNat) → ∃ x, L0 k n g cs f (levelsOf g cs f0 src) src dst most n0 nx = some (resB x.1 x.2) ∧ BlockOk g cs f0 src dst most x
  | 0, n0, f, nx, h, h', _, _, _, _ => by omega
  | n + 1, n0, f, nx, h, h', hF, hG, hN, h0 => by
    have hM : maxRate = 4611686018427387904 := rfl
    have hg := caps_graph hc
    have hL := levels_ok (cs := cs) (f := f0) hg hsrc
    unfold L0
    rw [f123.l0_eq]
    by_cases hlt : n0 < most
    · rw [decide_eq_true hlt, cT]
      have := L1_is (lv := levelsOf g cs f0 src) (dst := dst) (D := n0 = 0) hc hF.within hL.lv hsrc hL.src0 (fun r => ∃ x : List Int × Int, r = some (resB x.1 x.2) ∧ BlockOk g cs f0 src dst most x) k n (by omega) most n0 hne (fun out nx' hW hE hO hl => ?_) (fun hD => ?_) k [] nx
        ⟨hN, trivial, fun a ha => by simp at ha, fun hD v hv j hj hju => by
          rw [(h0 hD).2] at hju
          have : rdI (startsA g.2 g.1.toNat) v = ((orderA g.2 v.toNat).length : Int) := by
            have := rd_some (t := tI) (startsA_get g.2 (n := g.1.toNat) (i := v.toNat) (by omega))
            rw [show ((v.toNat : Nat) : Int) = v by omega] at this
            exact this
          omega⟩ (by
          have : 0 ≤ nx.sum := sum_nonneg' _ fun x hx => (hN.all x hx).1
          simp only [List.length_nil]
          omega)
      · unfold L1 at this
        exact this
      · rw [show (0 : Int) = ((0 : Nat) : Int) by rfl, show ([] : List Int) = (out.take 0).map (roomA cs f) by rfl]
        have hb := hW.way.below
        rw [L2_is hc hF.within k n most n0 hl (fun a ha => (hb a ha).1) k 0 (by omega) (by omega)]
        have hw1 : Go.IntKind.i64.wrap (most - n0) = most - n0 := wrap64 (by omega)
        rw [hw1]
        obtain ⟨y1, y2⟩ := foldl_min_le (out.map (roomA cs f)) (most - n0)
        have y3 : 1 ≤ (out.map (roomA cs f)).foldl min (most - n0) := foldl_min_ge _ _ (by omega) (fun y hy => by
          obtain ⟨a, ha, rfl⟩ := List.mem_map.1 hy
          have := (hb a ha).2.2.2.2
          omega)
        generalize (out.map (roomA cs f)).foldl min (most - n0) = b at y1 y2 y3
        have hr : ∀ a ∈ out, b ≤ roomA cs f a := fun a ha => y2 _ (List.mem_map_of_mem ha)
        obtain ⟨f1, f2, f3⟩ := hF.moves hc hL.src0 hW.way hE hne (by omega) hr
        have hform : moveForm g cs f b out = true := by
          unfold moveForm liesB
          rw [hc, hF.within, decide_eq_true (by omega : out.length ≤ 64)]
          rw [show rateB b = true from decide_eq_true (by omega), List.all_eq_true.2 (fun a ha => by
            rw [withinF_len hF.within, capsMay_len hc]
            exact (hb a ha).1)]
          rfl
        have hmv : (moveOf g cs f b out).1 = moves b f out := by
          unfold moveOf
          rw [hform, cT, f3]
        rw [hmv, wrap64 (n := n0 + b) (by omega)]
        exact L0_is k hk most hm hne hdst f0 n (n0 + b) _ nx' (by omega) (by omega) f1 (by omega) hW.nxOk (fun e => by omega)
      · refine ⟨(f, n0), rfl, hF, hG, h', fun e _ => ?_⟩
        obtain ⟨e1, e2⟩ := h0 e
        dsimp only at e
        have := hD e
        rw [e1] at this ⊢
        exact ⟨rfl, unreached hL hsrc hdst this⟩
    · rw [decide_eq_false hlt, cF]
      refine ⟨(f, n0), rfl, hF, hG, h', fun e h1 => ?_⟩
      dsimp only at e
      omega
end

theorem f123_is {g : Gr} {cs f : List Int} {src dst most : Int} (hc : capsMay g cs = true) (hs : hasV g.1 src = true) (hd : hasV g.1 dst = true) (hne : src ≠ dst) (hm : rateB most = true) (hF : FlowOk g cs f src dst) :
    ∃ x : List Int × Int, BlockOk g cs f src dst most x ∧ ∃ k, evFn (f123.E k) 9 123 Try.f123 (encL [tG, tL, tL, tI, tI, tI] ((g, (cs, (f, (src, (dst, most))))) : Gr × (List Int × (List Int × (Int × (Int × Int)))))) = some (resB x.1 x.2) := by
  have hg := caps_graph hc
  have hM : maxRate = 4611686018427387904 := rfl
  have h1 : 0 ≤ src ∧ src < g.1 := of_decide_eq_true hs
  have h2 : 0 ≤ dst ∧ dst < g.1 := of_decide_eq_true hd
  have h3 : 0 ≤ most ∧ most ≤ maxRate := of_decide_eq_true hm
  have hfl := withinF_len hF.within
  have hcl := capsMay_len hc
  have hp := graphMay_parts hg
  have hL : levelsRes g cs f src = (levelsOf g cs f src, 0) := by
    unfold levelsRes liesB
    rw [hc, hF.within, hs]
    rfl
  obtain ⟨x, e1, e2⟩ := L0_is (g := g) (cs := cs) (src := src) (dst := dst) hc h1 (6000 + (most.toNat + 1)) (by omega) most h3 hne h2 f (6000 + (most.toNat + 1)) 0 f (startsA g.2 g.1.toNat) (by omega) ⟨by omega, h3.1⟩ hF (by omega) (Nx.start hg) (fun _ => ⟨rfl, rfl⟩)
  refine ⟨x, e2, 6000 + (most.toNat + 1), (f123.eq _ g cs f src dst most).trans ?_⟩
  rw [hF.may hc hs hd hne, Bool.not_true, cF, hm, Bool.not_true, cF, hg, kT, bS, kT, bS, hL, decide_eq_true (by omega : f.length * 8 ≤ 140737488355328), kT, bS, startsA_len, decide_eq_true (by omega : (g.1.toNat + 1) * 8 ≤ 140737488355328), kT, bS]
  exact e1

open Classical in
/-- Some y that stands to x as it is said, if there is one. -/
noncomputable def relC {α β : Type} (P : β → α → Prop) (x : β) : Option α := if h : ∃ y, P x y then some (Classical.choose h) else none
theorem relC_is {α β : Type} {P : β → α → Prop} {x : β} (h : ∃ y, P x y) : ∃ y, relC P x = some y ∧ P x y := ⟨Classical.choose h, dif_pos h, Classical.choose_spec h⟩
theorem relC_some {α β : Type} {P : β → α → Prop} {x : β} {y : α} (h : relC P x = some y) : P x y := by
  unfold relC at h
  split at h
  · rename_i h'
    obtain rfl := Option.some.inj h
    exact Classical.choose_spec h'
  · cases h

def blockP (d : Gr × (List Int × (List Int × (Int × (Int × Int))))) (x : List Int × Int) : Prop :=
  BlockOk d.1 d.2.1 d.2.2.1 d.2.2.2.1 d.2.2.2.2.1 d.2.2.2.2.2 x ∧ ∃ k, evFn (f123.E k) 9 123 Try.f123 (encL [tG, tL, tL, tI, tI, tI] d) = some (resB x.1 x.2)
noncomputable def blockC (d : Gr × (List Int × (List Int × (Int × (Int × Int))))) : Option (List Int × Int) := relC blockP d

theorem blockC_is {g : Gr} {cs f : List Int} {src dst most : Int} (hc : capsMay g cs = true) (hs : hasV g.1 src = true) (hd : hasV g.1 dst = true) (hne : src ≠ dst) (hm : rateB most = true) (hF : FlowOk g cs f src dst) :
    ∃ x : List Int × Int, blockC (g, (cs, (f, (src, (dst, most))))) = some x ∧ BlockOk g cs f src dst most x := by
  obtain ⟨y, e1, e2⟩ := relC_is (P := blockP) (x := (g, (cs, (f, (src, (dst, most)))))) (f123_is hc hs hd hne hm hF)
  exact ⟨y, e1, e2.1⟩

noncomputable def S123 : Summ := summ [tG, tL, tL, tI, tI, tI] (List Int × Int) blockC (fun x => resB x.1 x.2)
theorem ok123 : SumOk Try.prog 123 S123 :=
  sum_k hmix f123.E (fn := Try.f123) (code := f123.code) (by kernel_rfl) (by kernel_rfl) (by kernel_rfl) (fun _ => ttOk) f123.sums f123.inl fun d x hx => by
    exact (relC_some (P := blockP) hx).2
end

end Go.Proofs.Ytiboikgoaihccaa.R
