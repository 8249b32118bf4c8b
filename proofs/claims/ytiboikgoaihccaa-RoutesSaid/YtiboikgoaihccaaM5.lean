/-
Texts of package route, put together by program.
-/
import Derived.Test.YtiboikgoaihccaaProg
import Derived.Test.YtiboikgoaihccaaRC
import Derived.Test.YtiboikgoaihccaaTt
import Derived.Test.YtiboikgoaihccaaM4
import Derived.KernelRfl
import Derived.Test.YtiboikgoaihccaaS15
namespace Go.Proofs.Ytiboikgoaihccaa.R

section
set_option maxRecDepth 100000
set_option linter.unusedVariables false
noncomputable def f101.E (k : Nat) : Env := mkEnv tt [(125, S125), (126, S126), (134, S134), (144, S144)] [(127, Try.f127)] [(101, 7, [.kill (rg [(0, 1), (5, 9), (11, 11), (13, 44)]), .tidy]), (127, 16, [.nil1 10 1 2621509 (.int .i64), .kill (rg [(0, 0), (2, 7), (9, 9), (11, 65), (69, 81)]), .tidy]), (127, 11, [.nil1 10 1 2621509 (.int .i64), .kill (rg [(0, 0), (2, 7), (9, 9), (11, 48), (52, 81)]), .tidy]), (127, 3, [.nil1 10 1 2621509 (.int .i64), .kill (rg [(0, 0), (2, 2), (5, 7), (9, 9), (12, 81)]), .tidy])] [(127, 2240, (rg [(0, 1), (5, 9), (11, 11), (13, 34), (36, 44)]))] k
noncomputable def f101.code : Go.Code := (Go.Func.body Try.f101).getD .skip
noncomputable def f101.l0 (k n : Nat) (p0 : Int) (p1 : Int) (p2 : Int) (p3 : List (Int × Int × Int)) (p4 : List Int) (p5 : List (Int × List Int)) : Option V :=
  atPath (f101.E k) n ⟨[.undef, .undef, (.int .i64 (p0)), (.int .i64 (p1)), (.ptr (1048592 : Nat) ((0 : Nat)) ((0 : Nat))), .undef, .undef, .undef, .undef, .undef, (.slw (2621456 : Nat)), .undef, (.slw (3145744 : Nat)), .undef, .undef, .undef, .undef, .undef, .undef, .undef, .undef, .undef, .undef, .undef, .undef, .undef, .undef, .undef, .undef, .undef, .undef, .undef, .undef, .undef, .undef, .undef, .undef, .undef, .undef, .undef, .undef, .undef, .undef, .undef, .undef], [], [((1048592 : Nat), .box [(.int .i64 (p2)), (.ro (.pair (.int .i64) (.pair (.int .i64) (.int .i64))) (p3))]), ((2621456 : Nat), .row (.int .i64) (p4)), ((3145744 : Nat), .row (.pair (.int .i64) (.list (.int .i64))) (p5))]⟩ 9 0 101 [.c 1, .c 1, .c 1, .c 1, .c 1, .c 0] [] f101.code (finK tt Try.f101)
noncomputable def f101.l1 (k n m0 : Nat) (p0 : Int) (p1 : Int) (p2 : Int) (p3 : List Int) (p4 : Int) (p5 : List (Int × Int × Int)) (p6 : Int) (p7 : List (Int × List Int)) (p8 : List Int) : Option V :=
  atPath (f101.E k) n ⟨[.undef, (.slw (262160 : Nat)), .undef, (.int .i64 (p0)), (.ptr (1048592 : Nat) ((0 : Nat)) ((0 : Nat))), .undef, .undef, .undef, (.ptr (2097168 : Nat) ((0 : Nat)) ((0 : Nat))), .undef, (.ptr (2621456 : Nat) ((0 : Nat)) ((0 : Nat))), (.int .i64 (p1)), .undef, .undef, .undef, .undef, .undef, .undef, .undef, .undef, .undef, .undef, .undef, .undef, .undef, .undef, .undef, .undef, .undef, .undef, .undef, .undef, .undef, .undef, .undef, .undef, .undef, .undef, .undef, .undef, .undef, .undef, .undef, .undef, .undef, .undef, .undef, .undef, .undef, .undef, .undef, .undef, .undef, .undef, .undef, .undef, .undef, .undef, .undef, .undef, .undef, .undef, .undef, .undef, .undef, .undef, .undef, .undef, .undef, .undef, .undef, .undef, .undef, .undef, .undef, .undef, .undef, .undef, .undef, .undef, .undef, .undef], [[.undef, .undef, (.int .i64 (p2)), (.int .i64 (p0)), (.ptr (1074790416 : Nat) ((0 : Nat)) ((0 : Nat))), .undef, .undef, .undef, .undef, .undef, (.slw (262160 : Nat)), .undef, (.slw (1076887568 : Nat)), .undef, .undef, .undef, .undef, .undef, .undef, .undef, .undef, .undef, .undef, .undef, .undef, .undef, .undef, .undef, .undef, .undef, .undef, .undef, .undef, .undef, .undef, .undef, .undef, .undef, .undef, .undef, .undef, .undef, .undef, .undef, .undef]], [((262160 : Nat), .row (.int .i64) (p3)), ((1048592 : Nat), .box [(.int .i64 (p4)), (.ro (.pair (.int .i64) (.pair (.int .i64) (.int .i64))) (p5))]), ((2097168 : Nat), .box [(.int .i64 (p6)), .nil]), ((2621456 : Nat), .box [(.int .i64 (p6)), (.slw (687198961776 : Nat))]), ((1074790416 : Nat), .box [(.int .i64 (p4)), (.ro (.pair (.int .i64) (.pair (.int .i64) (.int .i64))) (p5))]), ((1076887568 : Nat), .row (.pair (.int .i64) (.list (.int .i64))) (p7)), ((687198961776 : Nat), .row (.int .i64) (p8))]⟩ 9 0 101 [.c 1, .c 1, .c 1, .c 1, .c 1, .c 0, .c 0, .c 0, .c 0, .call 4 127, .c 1, .c 1, .c 0, .c 1, .c 0] [m0] f101.code (finK tt Try.f101)
noncomputable def f101.l2 (k n m0 : Nat) (p0 : Int) (p1 : Int) (p2 : Int) (p3 : Int) (p4 : List Int) (p5 : Int) (p6 : Int) (p7 : Int) (p8 : List (Int × Int × Int)) (p9 : List (Int × List Int)) (p10 : List Int) : Option V :=
  atPath (f101.E k) n ⟨[.undef, (.slw (262160 : Nat)), .undef, .undef, .undef, .undef, .undef, .undef, (.ptr (2097168 : Nat) ((0 : Nat)) ((0 : Nat))), .undef, (.ptr (2621456 : Nat) ((0 : Nat)) ((0 : Nat))), .undef, .undef, .undef, .undef, .undef, .undef, .undef, .undef, .undef, .undef, .undef, .undef, .undef, .undef, .undef, .undef, .undef, .undef, .undef, .undef, .undef, .undef, .undef, .undef, .undef, .undef, .undef, .undef, .undef, .undef, .undef, .undef, .undef, .undef, .undef, .undef, .undef, .undef, (.slw (687198961776 : Nat)), (.int .i64 (p0)), (.int .i64 (p1)), .undef, .undef, .undef, .undef, .undef, .undef, .undef, .undef, .undef, .undef, .undef, .undef, .undef, .undef, .undef, .undef, .undef, .undef, .undef, .undef, .undef, .undef, .undef, .undef, .undef, .undef, .undef, .undef, .undef, .undef], [[.undef, .undef, (.int .i64 (p2)), (.int .i64 (p3)), (.ptr (1074790416 : Nat) ((0 : Nat)) ((0 : Nat))), .undef, .undef, .undef, .undef, .undef, (.slw (262160 : Nat)), .undef, (.slw (1076887568 : Nat)), .undef, .undef, .undef, .undef, .undef, .undef, .undef, .undef, .undef, .undef, .undef, .undef, .undef, .undef, .undef, .undef, .undef, .undef, .undef, .undef, .undef, .undef, .undef, .undef, .undef, .undef, .undef, .undef, .undef, .undef, .undef, .undef]], [((262160 : Nat), .row (.int .i64) (p4)), ((2097168 : Nat), .box [(.int .i64 (p5)), .nil]), ((2621456 : Nat), .box [(.int .i64 (p6)), (.slw (687198961776 : Nat))]), ((1074790416 : Nat), .box [(.int .i64 (p7)), (.ro (.pair (.int .i64) (.pair (.int .i64) (.int .i64))) (p8))]), ((1076887568 : Nat), .row (.pair (.int .i64) (.list (.int .i64))) (p9)), ((687198961776 : Nat), .row (.int .i64) (p10))]⟩ 9 0 101 [.c 1, .c 1, .c 1, .c 1, .c 1, .c 0, .c 0, .c 0, .c 0, .call 4 127, .c 1, .c 1, .c 1, .c 1, .c 0, .c 1, .c 0] [m0] f101.code (finK tt Try.f101)
noncomputable def f101.l3 (k n m0 : Nat) (p0 : Int) (p1 : Int) (p2 : Int) (p3 : Int) (p4 : List Int) (p5 : Int) (p6 : Int) (p7 : Int) (p8 : List (Int × Int × Int)) (p9 : List (Int × List Int)) (p10 : List Int) : Option V :=
  atPath (f101.E k) n ⟨[.undef, (.slw (262160 : Nat)), .undef, .undef, .undef, .undef, .undef, .undef, (.ptr (2097168 : Nat) ((0 : Nat)) ((0 : Nat))), .undef, (.ptr (2621456 : Nat) ((0 : Nat)) ((0 : Nat))), .undef, .undef, .undef, .undef, .undef, .undef, .undef, .undef, .undef, .undef, .undef, .undef, .undef, .undef, .undef, .undef, .undef, .undef, .undef, .undef, .undef, .undef, .undef, .undef, .undef, .undef, .undef, .undef, .undef, .undef, .undef, .undef, .undef, .undef, .undef, .undef, .undef, .undef, .undef, .undef, .undef, .undef, .undef, .undef, .undef, .undef, .undef, .undef, .undef, .undef, .undef, .undef, .undef, .undef, .undef, (.slw (687198961776 : Nat)), (.int .i64 (p0)), (.int .i64 (p1)), .undef, .undef, .undef, .undef, .undef, .undef, .undef, .undef, .undef, .undef, .undef, .undef, .undef], [[.undef, .undef, (.int .i64 (p2)), (.int .i64 (p3)), (.ptr (1074790416 : Nat) ((0 : Nat)) ((0 : Nat))), .undef, .undef, .undef, .undef, .undef, (.slw (262160 : Nat)), .undef, (.slw (1076887568 : Nat)), .undef, .undef, .undef, .undef, .undef, .undef, .undef, .undef, .undef, .undef, .undef, .undef, .undef, .undef, .undef, .undef, .undef, .undef, .undef, .undef, .undef, .undef, .undef, .undef, .undef, .undef, .undef, .undef, .undef, .undef, .undef, .undef]], [((262160 : Nat), .row (.int .i64) (p4)), ((2097168 : Nat), .box [(.int .i64 (p5)), .nil]), ((2621456 : Nat), .box [(.int .i64 (p6)), (.slw (687198961776 : Nat))]), ((1074790416 : Nat), .box [(.int .i64 (p7)), (.ro (.pair (.int .i64) (.pair (.int .i64) (.int .i64))) (p8))]), ((1076887568 : Nat), .row (.pair (.int .i64) (.list (.int .i64))) (p9)), ((687198961776 : Nat), .row (.int .i64) (p10))]⟩ 9 0 101 [.c 1, .c 1, .c 1, .c 1, .c 1, .c 0, .c 0, .c 0, .c 0, .call 4 127, .c 1, .c 1, .c 1, .c 1, .c 1, .c 0, .c 1, .c 0] [m0] f101.code (finK tt Try.f101)
theorem f101.l0_eq (k n : Nat) (p0 : Int) (p1 : Int) (p2 : Int) (p3 : List (Int × Int × Int)) (p4 : List Int) (p5 : List (Int × List Int)) : f101.l0 k (n + 1) p0 p1 p2 p3 p4 p5 =
  f101.l1 k k n (p1) (p0) (p0) (p4) (p2) (p3) ((0 : Int)) (p5) ([]) := by kernel_rfl
theorem f101.l1_eq (k n m0 : Nat) (p0 : Int) (p1 : Int) (p2 : Int) (p3 : List Int) (p4 : Int) (p5 : List (Int × Int × Int)) (p6 : Int) (p7 : List (Int × List Int)) (p8 : List Int) : f101.l1 k (n + 1) m0 p0 p1 p2 p3 p4 p5 p6 p7 p8 =
  bif p1 != p0 then ((chk (nextForm ((p4, p5), p3, p1)) (some (nextA p5 p3 p1))).bind (fun y0 => bif decide (y0 < (0 : Int)) then (some (.tup [(.own (.pair (.int .i64) (.list (.int .i64))) (p7)), (.int .i64 ((0 : Int)))])) else (chk (decide ((p8 ++ [y0]).length * (8 : Nat) ≤ (140737488355328 : Nat))) (chk (decide ((0 : Int) ≤ Go.IntKind.i64.wrap ((↑(p8 ++ [y0]).length : Int) - (1 : Int)) ∧ Go.IntKind.i64.wrap ((↑(p8 ++ [y0]).length : Int) - (1 : Int)) < (↑(p8 ++ [y0]).length : Int))) (chk (decide ((0 : Int) ≤ rd (Ty.int Go.IntKind.i64) (p8 ++ [y0]) (↑(Go.IntKind.i64.wrap ((↑(p8 ++ [y0]).length : Int) - (1 : Int))).toNat : Int) ∧ rd (Ty.int Go.IntKind.i64) (p8 ++ [y0]) (↑(Go.IntKind.i64.wrap ((↑(p8 ++ [y0]).length : Int) - (1 : Int))).toNat : Int) < (↑p5.length : Int))) (f101.l1 k n m0 (p0) ((rd ((Ty.int Go.IntKind.i64).pair ((Ty.int Go.IntKind.i64).pair (Ty.int Go.IntKind.i64))) p5 (rd (Ty.int Go.IntKind.i64) (p8 ++ [y0]) (↑(Go.IntKind.i64.wrap ((↑(p8 ++ [y0]).length : Int) - (1 : Int))).toNat : Int))).snd.fst) (p2) (p3) (p4) (p5) (p6) (p7) (p8 ++ [y0]))))))) else (f101.l2 k k m0 ((↑p8.length : Int)) ((0 : Int)) (p2) (p0) (p3) (p6) ((4611686018427387904 : Int)) (p4) (p5) (p7) (p8)) := by kernel_rfl
theorem f101.l2_eq (k n m0 : Nat) (p0 : Int) (p1 : Int) (p2 : Int) (p3 : Int) (p4 : List Int) (p5 : Int) (p6 : Int) (p7 : Int) (p8 : List (Int × Int × Int)) (p9 : List (Int × List Int)) (p10 : List Int) : f101.l2 k (n + 1) m0 p0 p1 p2 p3 p4 p5 p6 p7 p8 p9 p10 =
  bif decide (p1 < p0) then (chk (decide ((0 : Int) ≤ p1 ∧ p1 < (↑p10.length : Int))) (chk (decide ((0 : Int) ≤ rd (Ty.int Go.IntKind.i64) p10 (↑p1.toNat : Int) ∧ rd (Ty.int Go.IntKind.i64) p10 (↑p1.toNat : Int) < (↑p4.length : Int))) (f101.l2 k n m0 (p0) (Go.IntKind.i64.wrap (p1 + (1 : Int))) (p2) (p3) (p4) (p5) (List.foldl min p6 [rd (Ty.int Go.IntKind.i64) p4 (↑(Int.toNat (rd (Ty.int Go.IntKind.i64) p10 (↑p1.toNat : Int))) : Int)]) (p7) (p8) (p9) (p10)))) else (f101.l3 k k m0 ((↑p10.length : Int)) ((0 : Int)) (p2) (p3) (p4) (p5) (p6) (p7) (p8) (p9) (p10)) := by kernel_rfl
theorem f101.l3_eq (k n m0 : Nat) (p0 : Int) (p1 : Int) (p2 : Int) (p3 : Int) (p4 : List Int) (p5 : Int) (p6 : Int) (p7 : Int) (p8 : List (Int × Int × Int)) (p9 : List (Int × List Int)) (p10 : List Int) : f101.l3 k (n + 1) m0 p0 p1 p2 p3 p4 p5 p6 p7 p8 p9 p10 =
  bif decide (p1 < p0) then (chk (decide ((0 : Int) ≤ p1 ∧ p1 < (↑p10.length : Int))) (chk (decide ((0 : Int) ≤ rd (Ty.int Go.IntKind.i64) p10 (↑p1.toNat : Int) ∧ rd (Ty.int Go.IntKind.i64) p10 (↑p1.toNat : Int) < (↑p4.length : Int))) (chk (decide ((0 : Int) ≤ rd (Ty.int Go.IntKind.i64) p10 (↑p1.toNat : Int) ∧ rd (Ty.int Go.IntKind.i64) p10 (↑p1.toNat : Int) < (↑p4.length : Int))) (f101.l3 k n m0 (p0) (Go.IntKind.i64.wrap (p1 + (1 : Int))) (p2) (p3) (p4.set (Int.toNat (rd (Ty.int Go.IntKind.i64) p10 (↑p1.toNat : Int))) (Go.IntKind.i64.wrap (rd (Ty.int Go.IntKind.i64) p4 (↑(Int.toNat (rd (Ty.int Go.IntKind.i64) p10 (↑p1.toNat : Int))) : Int) - p6))) (p5) (p6) (p7) (p8) (p9) (p10))))) else (chk (decide ((p9 ++ [(p6, p10)]).length * (32 : Nat) ≤ (140737488355328 : Nat))) (f101.l0 k m0 (p2) (p3) (p7) (p8) (p4) (p9 ++ [(p6, p10)]))) := by kernel_rfl
theorem f101.eq (k : Nat) (x0 : Int × List (Int × Int × Int)) (x1 : List Int) (x2 : Int) (x3 : Int) : evFn (f101.E k) 9 101 Try.f101 [(.agg [(.int .i64 (x0.fst)), (.ro (.pair (.int .i64) (.pair (.int .i64) (.int .i64))) (x0.snd))]), (.ro (.int .i64) (x1)), (.int .i64 (x2)), (.int .i64 (x3))] =
  bif !mayF x0 x1 x1 x2 x3 then (some (.tup [(.own (.pair (.int .i64) (.list (.int .i64))) ([])), (.int .i64 ((1500 : Int)))])) else ((cancelC ((x0, x1))).bind (fun y0 => bif y0.snd != (0 : Int) then (some (.tup [(.own (.pair (.int .i64) (.list (.int .i64))) ([])), (.int .i64 ((1500 : Int)))])) else (f101.l0 k k (x2) (x3) (x0.fst) (x0.snd) (y0.fst) ([])))) := by kernel_rfl
theorem f101.inl (k : Nat) : InlOk Try.prog (f101.E k) := (inl_cons (by kernel_rfl) (by kernel_rfl) inl_nil)
theorem f101.sums (k : Nat) : SumsOk Try.prog (f101.E k) := (sums_cons ok125 (sums_cons ok126 (sums_cons ok134 (sums_cons ok144 sums_nil))))
end

section
set_option linter.unusedVariables false
set_option maxRecDepth 100000

theorem chain_walk {gl : List Lk} : ∀ {ws : List Int} {v w : Int}, ChainL gl v ws w → walkL gl v ws = some (ws.map fun l => (lk gl l).2.1)
  | [], v, w, _ => rfl
  | a :: ws, v, w, h => by
    simp only [walkL]
    rw [h.1, show (v == v) = true by simp, cT, chain_walk h.2]
    rfl

theorem gain_le {v : Int} : ∀ {gl : List Lk} {f : List Int}, f.length = gl.length → (∀ x ∈ f, 0 ≤ x) → (∀ (i : Nat) (l : Lk) (x : Int), gl[i]? = some l → f[i]? = some x → l.1 = v → x = 0) →
    gainV gl f v ≤ 0 ∧ ∀ (i : Nat) (l : Lk) (x : Int), gl[i]? = some l → f[i]? = some x → l.2.1 = v → gainV gl f v ≤ -x
  | [], _, _, _, _ => ⟨by simp [gainV], by simp⟩
  | l :: gl, [], h, _, _ => by simp at h
  | l :: gl, x :: f, h, h0, h1 => by
    obtain ⟨i1, i2⟩ := gain_le (v := v) (gl := gl) (f := f) (by simpa using h) (fun y hy => h0 y (by simp [hy])) fun i l x hl hx => h1 (i + 1) l x (by simpa using hl) (by simpa using hx)
    have c0 : 0 ≤ x := h0 x (by simp)
    have c1 : l.1 = v → x = 0 := h1 0 l x rfl rfl
    have e : gainV (l :: gl) (x :: f) v = ((bif l.1 == v then x else 0) - (bif l.2.1 == v then x else 0)) + gainV gl f v := rfl
    have hd : gainV (l :: gl) (x :: f) v ≤ gainV gl f v ∧ (l.2.1 = v → gainV (l :: gl) (x :: f) v ≤ gainV gl f v - x) := by
      rw [e]
      by_cases e1 : l.1 = v
      · have := c1 e1
        subst this
        constructor
        · cases l.1 == v <;> cases l.2.1 == v <;> simp only [cT, cF] <;> omega
        · intro _; cases l.1 == v <;> cases l.2.1 == v <;> simp only [cT, cF] <;> omega
      · rw [show (l.1 == v) = false by simpa using e1, cF]
        constructor
        · cases l.2.1 == v <;> simp only [cT, cF] <;> omega
        · intro e2
          rw [show (l.2.1 == v) = true by simpa using e2, cT]
          omega
    refine ⟨by omega, fun i l' x' hl hx hv => ?_⟩
    cases i with
    | zero =>
      simp only [List.getElem?_cons_zero, Option.some.injEq] at hl hx
      subst hl hx
      have := hd.2 hv
      omega
    | succ i =>
      have := i2 i l' x' (by simpa using hl) (by simpa using hx) hv
      omega

theorem lk_nat {gl : List Lk} {i : Nat} {l : Lk} (h : gl[i]? = some l) : lk gl (i : Int) = l := rd_some (t := tLk) h
theorem lk_some {gl : List Lk} {i : Int} (h : 0 ≤ i ∧ i < (gl.length : Int)) : gl[i.toNat]? = some (lk gl i) := by
  have hi : i.toNat < gl.length := by omega
  have := rd_some (t := tLk) (List.getElem?_eq_getElem hi)
  rw [show ((i.toNat : Nat) : Int) = i by omega] at this
  rw [List.getElem?_eq_getElem hi]
  exact congrArg some this.symm

/-- Where no link leads on. -/
theorem next_none {gl : List Lk} {f : List Int} {v : Int} (hl : f.length = gl.length) (h0 : ∀ x ∈ f, 0 ≤ x) (h : nextA gl f v < 0) :
    gainV gl f v ≤ 0 ∧ ∀ i : Int, 0 ≤ i ∧ i < (gl.length : Int) → (lk gl i).2.1 = v → gainV gl f v ≤ - rdI f i := by
  have hs := (searchI_cases gl.length (nextB gl f v)).resolve_right fun hx => by
    have e : searchI gl.length (nextB gl f v) = nextA gl f v := rfl
    omega
  obtain ⟨a1, a2⟩ := gain_le (v := v) hl h0 fun i l x hl' hx hv => by
    have hi := idx_lt hl'
    have := hs.2 (i : Int) (by omega)
    unfold nextB at this
    rw [lk_nat hl', hv, rdI_some hx, show (v == v) = true by simp, Bool.true_and] at this
    have h1 := h0 x (List.mem_of_getElem? hx)
    have h2 := of_decide_eq_false this
    omega
  exact ⟨a1, fun i hi hv => a2 i.toNat _ _ (lk_some hi) (rdI_get (by omega)) hv⟩

theorem addLs_at {b : Int} : ∀ {ws o : List Int}, (∀ l ∈ ws, (0 ≤ l ∧ l < (o.length : Int)) ∧ rdI o l + b ≤ maxRate) → ws.Nodup →
    ∃ o', addLs b ws o = some o' ∧ o'.length = o.length ∧ ∀ i : Int, 0 ≤ i ∧ i < (o.length : Int) → rdI o' i = rdI o i + bif decide (i ∈ ws) then b else 0
  | [], o, _, _ => ⟨o, rfl, rfl, fun i _ => by simp⟩
  | a :: ws, o, h, hn => by
    obtain ⟨h1, h2⟩ := h a (by simp)
    rw [List.nodup_cons] at hn
    have ek : addK o a b = some (o.set a.toNat (rdI o a + b)) := by
      have hx : rd tI o a = rdI o a := rfl
      unfold addK
      rw [hx, decide_eq_false (by omega : ¬ b > maxRate - rdI o a), cF]
    have at_ : ∀ i : Int, 0 ≤ i ∧ i < (o.length : Int) → rdI (o.set a.toNat (rdI o a + b)) i = bif a == i then rdI o a + b else rdI o i := fun i hi => rdI_set h1 hi
    obtain ⟨o', e1, e2, e3⟩ := addLs_at (b := b) (ws := ws) (o := o.set a.toNat (rdI o a + b)) (fun l hl => by
      obtain ⟨l1, l2⟩ := h l (by simp [hl])
      refine ⟨by rw [List.length_set]; exact l1, ?_⟩
      rw [at_ l l1, show (a == l) = false from beq_eq_false_iff_ne.2 (fun e => hn.1 (e ▸ hl)), cF]
      exact l2) hn.2
    rw [List.length_set] at e2
    refine ⟨o', ?_, e2, fun i hi => ?_⟩
    · simp only [addLs]
      rw [ek, bS, e1]
    · rw [e3 i (by rw [List.length_set]; exact hi), at_ i hi]
      by_cases hai : a = i
      · subst hai
        rw [show (a == a) = true by simp, cT, decide_eq_false hn.1, cF, decide_eq_true (by simp : a ∈ a :: ws), cT]
        omega
      · rw [show (a == i) = false by simpa using hai, cF]
        by_cases hm : i ∈ ws
        · rw [decide_eq_true hm, decide_eq_true (by simp [hm] : i ∈ a :: ws)]
        · rw [decide_eq_false hm, decide_eq_false (by simp [hm, Ne.symm hai] : ¬ i ∈ a :: ws)]

/-- What a flow comes to in paths. -/
structure SplitOk (g : Gr) (f : List Int) (src dst : Int) (ps : List Pt) : Prop where
  all : ∀ p ∈ ps, 0 < p.1 ∧ pathB g src dst p.2 = true
  len : ps.length ≤ 16
  sum : (ratesOf ps).sum = gainV g.2 f src
  loads : ∃ o, addPs ps (List.replicate g.2.length 0) = some o ∧ o.length = g.2.length ∧ ∀ i : Int, 0 ≤ i ∧ i < (g.2.length : Int) → rdI o i ≤ rdI f i

/-- What is so between two paths: left is what is not in paths yet. -/
structure SpSt (g : Gr) (f : List Int) (src dst : Int) (left : List Int) (out : List Pt) : Prop where
  flow : FlowOk g f left src dst
  acyc : Acyc g.2 left
  all : ∀ p ∈ out, 0 < p.1 ∧ pathB g src dst p.2 = true
  len : out.length + cntP left ≤ 16
  sum : (ratesOf out).sum + gainV g.2 left src = gainV g.2 f src
  loads : ∃ o, addPs out (List.replicate g.2.length 0) = some o ∧ o.length = g.2.length ∧ ∀ i : Int, 0 ≤ i ∧ i < (g.2.length : Int) → rdI o i + rdI left i ≤ rdI f i

section
variable {g : Gr} {f : List Int} {src dst : Int} (hc : capsMay g f = true)

/-- A walk on the way to dst. -/
structure PeelSt (g : Gr) (src : Int) (left : List Int) (r : Int → Nat) (v : Int) (ws : List Int) : Prop where
  chain : ChainL g.2 src ws v
  lin : ∀ l ∈ ws, (0 ≤ l ∧ l < (g.2.length : Int)) ∧ rdI left l > 0
  nodup : (vertsL g.2 src ws).Nodup
  vin : ∀ u ∈ vertsL g.2 src ws, (0 ≤ u ∧ u < g.1) ∧ r v ≤ r u
  into : ws ≠ [] → v ≠ src ∧ ∃ l, (0 ≤ l ∧ l < (g.2.length : Int)) ∧ rdI left l > 0 ∧ (lk g.2 l).2.1 = v

include hc in
theorem PeelSt.path {left : List Int} {r : Int → Nat} {ws : List Int} (h : PeelSt g src left r dst ws) (hs : 0 ≤ src ∧ src < g.1) (hne : src ≠ dst) : pathB g src dst ws = true ∧ ws.Nodup ∧ ws ≠ [] ∧ ws.length ≤ 7 := by
  have hg := caps_graph hc
  have hp := graphMay_parts hg
  have hlen := nodup_len g.1.toNat _ h.nodup fun x hx => by have := (h.vin x hx).1; omega
  rw [vertsL_len] at hlen
  have hws : ws ≠ [] := by
    rintro rfl
    exact hne h.chain
  have hform : walkForm g src ws = true := by
    unfold walkForm
    rw [hg, show hasV g.1 src = true from decide_eq_true hs, decide_eq_true (by omega : ws.length ≤ 64), show ws.all (lkIn g.2) = true from List.all_eq_true.2 fun l hl => decide_eq_true (h.lin l hl).1]
    rfl
  have hwk : walkOf g src ws = (vertsL g.2 src ws, 0) := by
    unfold walkOf
    rw [hform, cT, chain_walk h.chain]
    rfl
  refine ⟨?_, ?_, hws, by omega⟩
  · unfold pathB
    rw [hwk, decide_eq_true (List.length_pos_iff.2 hws), rd_some (t := tI) h.chain.last, decide_eq_true h.nodup]
    simp
  · have hfr := h.chain.froms
    have hnd := h.nodup
    rw [hfr] at hnd
    have := (List.nodup_append.1 hnd).1
    exact (List.pairwise_map.1 this).imp fun hn e => hn (by rw [e])

theorem f101.l2_is (k m0 : Nat) (left : List Int) (z : Int) (out : List Pt) {ws : List Int} (hw : ∀ l ∈ ws, 0 ≤ l ∧ l < (left.length : Int)) (hl : ws.length ≤ 64) : ∀ (n i : Nat), i ≤ ws.length → ws.length < n + i →
    f101.l2 k n m0 (ws.length : Int) (i : Int) src dst left z (((ws.take i).map (rdI left)).foldl min maxRate) g.1 g.2 out ws = f101.l3 k k m0 (ws.length : Int) 0 src dst left z ((ws.map (rdI left)).foldl min maxRate) g.1 g.2 out ws
  | 0, i, h, h' => by omega
  | n + 1, i, h, h' => by
    rw [f101.l2_eq]
    by_cases hlt : i < ws.length
    · have hx := List.getElem?_eq_getElem hlt
      have h1 := hw _ (List.getElem_mem hlt)
      have e1 : rd (Ty.int Go.IntKind.i64) ws (((i : Int).toNat : Nat) : Int) = ws[i] := rd_some (t := tI) (by rw [Int.toNat_natCast]; exact hx)
      have e2 : rd (Ty.int Go.IntKind.i64) left ((ws[i].toNat : Nat) : Int) = rdI left ws[i] := rdI_nat _ _
      have et : ws.take (i + 1) = ws.take i ++ [ws[i]] := by rw [List.take_add_one, hx]; rfl
      rw [e1, e2, decide_eq_true (by omega : (i : Int) < (ws.length : Int)), cT, decide_eq_true (by omega : (0 : Int) ≤ (i : Int) ∧ (i : Int) < (ws.length : Int)), kT, decide_eq_true h1, kT, wrap_succ (by omega), ← f101.l2_is k m0 left z out hw hl n (i + 1) (by omega) (by omega), et, List.map_append, List.foldl_append]
      rfl
    · obtain rfl : i = ws.length := by omega
      rw [decide_eq_false (by omega : ¬ (ws.length : Int) < (ws.length : Int)), cF, List.take_length]

theorem f101.l3_is (k m0 : Nat) {left : List Int} (hcl : capsMay g left = true) (z : Int) (out : List Pt) (ho : out.length ≤ 16) {b : Int} {ws : List Int} (h : SubOk g left b ws) (hl : ws.length ≤ 64) : ∀ (n i : Nat), i ≤ ws.length → ws.length < n + i →
    f101.l3 k n m0 (ws.length : Int) (i : Int) src dst (subL b left (ws.take i)) z b g.1 g.2 out ws = f101.l0 k m0 src dst g.1 g.2 (subL b left ws) (out ++ [(b, ws)])
  | 0, i, h1, h2 => by omega
  | n + 1, i, h1, h2 => by
    rw [f101.l3_eq]
    by_cases hlt : i < ws.length
    · have hx := List.getElem?_eq_getElem hlt
      obtain ⟨s1, s2, s3⟩ := h.step hcl hx
      have e1 : rd (Ty.int Go.IntKind.i64) ws (((i : Int).toNat : Nat) : Int) = ws[i] := rd_some (t := tI) (by rw [Int.toNat_natCast]; exact hx)
      have e2 : rd (Ty.int Go.IntKind.i64) (subL b left (ws.take i)) ((ws[i].toNat : Nat) : Int) = rdI (subL b left (ws.take i)) ws[i] := rdI_nat _ _
      have c2 : decide ((0 : Int) ≤ ws[i] ∧ ws[i] < ((subL b left (ws.take i)).length : Int)) = true := decide_eq_true (by rw [subL_len]; exact s3)
      have et : ws.take (i + 1) = ws.take i ++ [ws[i]] := by rw [List.take_add_one, hx]; rfl
      rw [e1, e2, s2, c2, decide_eq_true (by omega : (i : Int) < (ws.length : Int)), cT, decide_eq_true (by omega : (0 : Int) ≤ (i : Int) ∧ (i : Int) < (ws.length : Int)), kT, kT, kT, wrap_succ (by omega), ← f101.l3_is k m0 hcl z out ho h hl n (i + 1) (by omega) (by omega), et, subL_snoc]
    · obtain rfl : i = ws.length := by omega
      rw [decide_eq_false (by omega : ¬ (ws.length : Int) < (ws.length : Int)), cF, List.take_length, decide_eq_true (by rw [List.length_append, List.length_singleton]; omega : (out ++ [(b, ws)]).length * 32 ≤ 140737488355328), kT]

include hc in
theorem SpSt.caps {left : List Int} {out : List Pt} (h : SpSt g f src dst left out) : capsMay g left = true := lies_caps (cs := f) (by unfold liesB; rw [hc, h.flow.within]; rfl)

include hc in
/-- One path more. -/
theorem SpSt.more {left : List Int} {out : List Pt} (h : SpSt g f src dst left out) {r : Int → Nat} {ws : List Int} (hw : PeelSt g src left r dst ws) (hs : 0 ≤ src ∧ src < g.1) (hne : src ≠ dst) {b : Int} (hb : SubOk g left b ws) :
    SpSt g f src dst (subL b left ws) (out ++ [(b, ws)]) ∧ cntP (subL b left ws) < cntP left := by
  have hcl := h.caps hc
  have hl := capsMay_len hcl
  have hM : maxRate = 4611686018427387904 := rfl
  obtain ⟨p1, p2, p3, p4⟩ := hw.path hc hs hne
  obtain ⟨t1, t2, t3⟩ := hb.sub (fun i hi => (caps_sum hcl).2 _ (List.mem_of_getElem? (rdI_get (by omega)))) hl
  have hbp := hb.pos
  have hfl := capsMay_len hc
  have hg := fun v => gain_sub (b := b) (v := v) hl (fun l hl => (hw.lin l hl).1) hw.chain
  have hlen := h.len
  have hle : ∀ i : Int, 0 ≤ i ∧ i < (g.2.length : Int) → 0 ≤ rdI (subL b left ws) i ∧ rdI (subL b left ws) i ≤ rdI left i := fun i hi => within_at t1 (by omega)
  refine ⟨⟨⟨?_, fun v hv h1 h2 => ?_, fun i hi he => ?_⟩, h.acyc.less fun i hi hp => ?_, fun p hp => ?_, ?_, ?_, ?_⟩, t2⟩
  · have e := subL_len b ws left
    exact withinF_by (by omega) fun i hi => by
      have a1 := hle i (by omega)
      have a2 := within_at h.flow.within (i := i) hi
      omega
  · rw [hg v, h.flow.still v hv h1 h2, show (src == v) = false by simpa using Ne.symm h1, show (dst == v) = false by simpa using Ne.symm h2, cF]
    rfl
  · have a1 := hle i hi
    have a2 := h.flow.noIn i hi he
    omega
  · have a1 := hle i hi
    omega
  · rcases List.mem_append.1 hp with hp | hp
    · exact h.all p hp
    · obtain rfl : p = (b, ws) := by simpa using hp
      exact ⟨by show 0 < b; omega, p1⟩
  · rw [List.length_append, List.length_singleton]
    omega
  · have hsum := h.sum
    rw [hg src, show (src == src) = true by simp, show (dst == src) = false by simpa using Ne.symm hne, cT, cF]
    unfold ratesOf at hsum ⊢
    rw [List.map_append, List.sum_append]
    simp only [List.map_cons, List.map_nil, List.sum_cons, List.sum_nil]
    omega
  · obtain ⟨o, o1, o2, o3⟩ := h.loads
    obtain ⟨o', q1, q2, q3⟩ := addLs_at (b := b) (ws := ws) (o := o) (fun l hl' => by
      obtain ⟨l1, l2⟩ := hb.le l hl'
      have l3 := o3 l l1
      have l4 := (caps_le hc (List.mem_of_getElem? (rdI_get (f := f) (i := l) (by omega)))).2
      exact ⟨by omega, by omega⟩) p2
    refine ⟨o', ?_, by omega, fun i hi => ?_⟩
    · rw [addPs_append, o1, bS]
      simp only [addPs]
      rw [q1, bS]
    · have l3 := o3 i hi
      rw [q3 i (by omega), t3 i hi]
      cases decide (i ∈ ws) <;> simp only [cT, cF] <;> omega

include hc in
/-- Where a walk ends. -/
theorem SpSt.stop {left : List Int} {out : List Pt} (h : SpSt g f src dst left out) {r : Int → Nat} {v : Int} {ws : List Int} (hw : PeelSt g src left r v ws) (hne : src ≠ dst) (hvd : v ≠ dst) (hn : nextA g.2 left v < 0) : SplitOk g f src dst out := by
  have hcl := h.caps hc
  have hl := capsMay_len hcl
  have h0 := (caps_sum hcl).2
  obtain ⟨n1, n2⟩ := next_none hl h0 hn
  have hws : ws = [] := by
    by_cases he : ws = []
    · exact he
    · obtain ⟨a1, l, a2, a3, a4⟩ := hw.into he
      have := n2 l a2 a4
      have hv := (hw.vin v (List.mem_of_getElem? hw.chain.last)).1
      rw [h.flow.still v hv a1 hvd] at this
      omega
  subst hws
  obtain rfl : src = v := hw.chain
  have hge : 0 ≤ gainV g.2 left src := gain_nonneg hl (fun i hi => h0 _ (List.mem_of_getElem? (rdI_get (by omega)))) h.flow.noIn
  have hsum := h.sum
  obtain ⟨o, o1, o2, o3⟩ := h.loads
  exact ⟨h.all, by have := h.len; omega, by omega, o, o1, o2, fun i hi => by
    have a1 := o3 i hi
    have a2 := h0 _ (List.mem_of_getElem? (rdI_get (f := left) (i := i) (by omega)))
    omega⟩

@[reducible] def resSp (x : List Pt × Int) : V := .tup [.own tP x.1, .int .i64 x.2]

include hc in
theorem f101.l1_is (Q : Option V → Prop) (k m0 : Nat) (hk : 65 ≤ k) (hs : 0 ≤ src ∧ src < g.1) (hne : src ≠ dst) {left : List Int} {out : List Pt} (h : SpSt g f src dst left out) {r : Int → Nat} (hr : ∀ i, 0 ≤ i ∧ i < (g.2.length : Int) → rdI left i > 0 → r (lk g.2 i).2.1 < r (lk g.2 i).1) (z : Int)
    (hstop : SplitOk g f src dst out → Q (some (resSp (out, 0)))) (hmore : ∀ left' out', SpSt g f src dst left' out' → cntP left' < cntP left → Q (f101.l0 k m0 src dst g.1 g.2 left' out')) : ∀ (n : Nat) (v : Int) (ws : List Int), PeelSt g src left r v ws → 9 < n + ws.length →
    Q (f101.l1 k n m0 dst v src left g.1 g.2 z out ws)
  | 0, v, ws, hw, hn => by
    have hp := graphMay_parts (caps_graph hc)
    have hlen := nodup_len g.1.toNat _ hw.nodup fun x hx => by have := (hw.vin x hx).1; omega
    rw [vertsL_len] at hlen
    omega
  | n + 1, v, ws, hw, hn => by
    have hg := caps_graph hc
    have hp := graphMay_parts hg
    have hcl := h.caps hc
    have hl := capsMay_len hcl
    have hlen := nodup_len g.1.toNat _ hw.nodup fun x hx => by have := (hw.vin x hx).1; omega
    rw [vertsL_len] at hlen
    rw [f101.l1_eq]
    by_cases hvd : v = dst
    · subst hvd
      obtain ⟨p1, p2, p3, p4⟩ := hw.path hc hs hne
      rw [show (v != v) = false by simp, cF]
      have e2 := f101.l2_is (g := g) (src := src) (dst := v) k m0 left z out (ws := ws) (fun l hl' => by have := (hw.lin l hl').1; omega) (by omega) k 0 (by omega) (by omega)
      have e2' : f101.l2 k k m0 (ws.length : Int) 0 src v left z (4611686018427387904 : Int) g.1 g.2 out ws = f101.l3 k k m0 (ws.length : Int) 0 src v left z ((ws.map (rdI left)).foldl min maxRate) g.1 g.2 out ws := e2
      rw [e2']
      obtain ⟨s1, s2⟩ := SubOk.of hcl hw.lin p2 p3 rfl
      generalize (ws.map (rdI left)).foldl min maxRate = b at s1 s2
      have e3 := f101.l3_is (g := g) (src := src) (dst := v) k m0 hcl z out (by have := h.len; omega) s1 (by omega) k 0 (by omega) (by omega)
      rw [show ((0 : Nat) : Int) = 0 by rfl, show subL b left (ws.take 0) = left by rfl] at e3
      rw [e3]
      obtain ⟨t1, t2⟩ := h.more hc hw hs hne s1
      exact hmore _ _ t1 t2
    · have c2 : nextForm (((g.1, g.2), left, v) : Gr × (List Int × Int)) = true := by
        unfold nextForm
        dsimp only
        rw [show graphMay (g.1, g.2) = true from hg, hl]
        simp
      rw [show (v != dst) = true by simpa using hvd, cT, c2, kT, bS]
      by_cases h0 : nextA g.2 left v < 0
      · rw [decide_eq_true h0, cT]
        exact hstop (h.stop hc hw hne hvd h0)
      · rw [decide_eq_false h0, cF]
        obtain ⟨s1, s2⟩ := (searchI_cases g.2.length (nextB g.2 left v)).resolve_left fun hx => h0 (by
          have e : nextA g.2 left v = -1 := hx.1
          omega)
        have hal : searchI g.2.length (nextB g.2 left v) = nextA g.2 left v := rfl
        rw [hal] at s1 s2
        generalize nextA g.2 left v = l at s1 s2 h0
        unfold nextB at s2
        rw [Bool.and_eq_true] at s2
        have e1 := eq_of_beq s2.1
        have e3 : rdI left l > 0 := of_decide_eq_true s2.2
        have hl1 : (ws ++ [l]).length = ws.length + 1 := by simp
        have w1 : Go.IntKind.i64.wrap (((ws ++ [l]).length : Int) - 1) = (ws.length : Int) := by rw [hl1, wrap64 (by omega)]; omega
        have r1 : rd (Ty.int Go.IntKind.i64) (ws ++ [l]) (((ws.length : Int).toNat : Nat) : Int) = l := rd_some (t := tI) (by rw [Int.toNat_natCast]; simp)
        rw [decide_eq_true (by omega : (ws ++ [l]).length * 8 ≤ 140737488355328), kT, w1, decide_eq_true (by omega : (0 : Int) ≤ (ws.length : Int) ∧ (ws.length : Int) < ((ws ++ [l]).length : Int)), kT, r1, decide_eq_true s1, kT]
        have hto := (lk_at hg s1).2.1
        have hrl := hr l s1 e3
        have hnew : ∀ u ∈ vertsL g.2 src ws, r (lk g.2 l).2.1 < r u := fun u hu => by
          have := (hw.vin u hu).2
          rw [e1] at hrl
          omega
        have ih := f101.l1_is Q k m0 hk hs hne h hr z hstop hmore n (lk g.2 l).2.1 (ws ++ [l]) ⟨hw.chain.snoc e1, fun a ha => by
          rcases List.mem_append.1 ha with ha | ha
          · exact hw.lin a ha
          · obtain rfl : a = l := by simpa using ha
            exact ⟨s1, e3⟩, by
          rw [vertsL_snoc]
          exact List.nodup_append.2 ⟨hw.nodup, by simp, fun a ha b hb => by
            obtain rfl : b = (lk g.2 l).2.1 := by simpa using hb
            rintro rfl
            have := hnew _ ha
            omega⟩, fun u hu => by
          rw [vertsL_snoc] at hu
          rcases List.mem_append.1 hu with hu | hu
          · exact ⟨(hw.vin u hu).1, by have := hnew u hu; omega⟩
          · obtain rfl : u = (lk g.2 l).2.1 := by simpa using hu
            exact ⟨hto, Nat.le_refl _⟩, fun _ => ⟨fun e => by
              have := hnew src (by simp [vertsL])
              rw [e] at this
              omega, l, s1, e3, rfl⟩⟩ (by omega)
        exact ih

include hc in
theorem f101.l0_is (k : Nat) (hk : 65 ≤ k) (hs : 0 ≤ src ∧ src < g.1) (hne : src ≠ dst) : ∀ (n : Nat) (left : List Int) (out : List Pt), cntP left < n → SpSt g f src dst left out →
    ∃ ps, f101.l0 k n src dst g.1 g.2 left out = some (resSp (ps, 0)) ∧ SplitOk g f src dst ps
  | 0, left, out, h, _ => by omega
  | n + 1, left, out, h, hst => by
    rw [f101.l0_eq]
    obtain ⟨r, hr⟩ := hst.acyc
    exact f101.l1_is hc (fun y => ∃ ps, y = some (resSp (ps, 0)) ∧ SplitOk g f src dst ps) k n hk hs hne hst hr 0 (fun h1 => ⟨out, rfl, h1⟩) (fun left' out' h1 h2 => f101.l0_is k hk hs hne n left' out' (by omega) h1) k src [] ⟨rfl, by simp, by simp [vertsL], fun u hu => by
      obtain rfl : u = src := by simpa [vertsL] using hu
      exact ⟨hs, Nat.le_refl _⟩, fun h => absurd rfl h⟩ (by simp; omega)
end

def splitP (d : Gr × (List Int × (Int × Int))) (x : List Pt × Int) : Prop :=
  (x.2 = 0 ∧ SplitOk d.1 d.2.1 d.2.2.1 d.2.2.2 x.1) ∧ ∃ k, evFn (f101.E k) 9 101 Try.f101 (encL [tG, tL, tI, tI] d) = some (resSp x)
noncomputable def splitC (d : Gr × (List Int × (Int × Int))) : Option (List Pt × Int) := relC splitP d

theorem splitC_is {g : Gr} {cs f : List Int} {src dst : Int} (hcs : capsMay g cs = true) (hF : FlowOk g cs f src dst) (hs : hasV g.1 src = true) (hd : hasV g.1 dst = true) (hne : src ≠ dst) : ∃ ps, splitC (g, (f, (src, dst))) = some (ps, 0) ∧ SplitOk g f src dst ps := by
  have hc : capsMay g f = true := lies_caps (cs := cs) (by unfold liesB; rw [hcs, hF.within]; rfl)
  have hg := caps_graph hc
  have h1 : 0 ≤ src ∧ src < g.1 := of_decide_eq_true hs
  have hF' : FlowOk g f f src dst := ⟨withinF_self (caps_sum hc).2, hF.still, hF.noIn⟩
  have hfl := capsMay_len hc
  have hp := graphMay_parts hg
  obtain ⟨x, e1, e2⟩ := cancelC_is hg f
  unfold cancelQ at e2
  dsimp only at e2
  rw [hc, cT] at e2
  obtain ⟨e2, e3⟩ := e2
  have hwl := withinF_len e3.within
  have hx := fun (i : Int) => within_at e3.within (i := i)
  have hst : SpSt g f src dst x.1 [] := by
    refine ⟨⟨e3.within, fun v hv a b => by rw [e3.gain]; exact hF.still v hv a b, fun i hi he => ?_⟩, e3.acyc, by simp, ?_, ?_, List.replicate g.2.length 0, rfl, by simp, fun i hi => ?_⟩
    · have a1 := hx i (by omega)
      have a2 := hF.noIn i hi he
      omega
    · have := cntP_len x.1
      simp only [List.length_nil]
      omega
    · rw [e3.gain]
      simp [ratesOf]
    · rw [rdI_replicate (by omega)]
      have a1 := hx i (by omega)
      omega
  obtain ⟨ps, p1, p2⟩ := f101.l0_is hc 100 (by omega) h1 hne 100 x.1 [] (by have := cntP_len x.1; omega) hst
  have : ∃ y, splitP (g, (f, (src, dst))) y := by
    refine ⟨(ps, 0), ⟨rfl, p2⟩, 100, (f101.eq _ g f src dst).trans ?_⟩
    rw [hF'.may hc hs hd hne, Bool.not_true, cF, e1, bS, e2, show ((0 : Int) != 0) = false by rfl, cF]
    exact p1
  obtain ⟨y, y1, y2⟩ := relC_is this
  refine ⟨y.1, ?_, y2.1.2⟩
  rw [show splitC (g, (f, (src, dst))) = some y from y1, ← y2.1.1]

noncomputable def S101 : Summ := summ [tG, tL, tI, tI] (List Pt × Int) splitC resSp
theorem ok101 : SumOk Try.prog 101 S101 :=
  sum_k hmix f101.E (fn := Try.f101) (code := f101.code) (by kernel_rfl) (by kernel_rfl) (by kernel_rfl) (fun _ => ttOk) f101.sums f101.inl fun d x hx => (relC_some (P := splitP) hx).2
end

section
set_option maxRecDepth 100000
set_option linter.unusedVariables false
noncomputable def f51.E (k : Nat) : Env := mkEnv tt [(92, S92), (95, S95), (98, S98), (99, S99), (100, S100), (101, S101)] [] [] [] k
noncomputable def f51.code : Go.Code := (Go.Func.body Try.f51).getD .skip
theorem f51.eq (k : Nat) (x0 : Int × List (Int × Int × Int)) (x1 : List Int) (x2 : Int) (x3 : Int) (x4 : Int) : evFn (f51.E k) 9 51 Try.f51 [(.agg [(.int .i64 (x0.fst)), (.ro (.pair (.int .i64) (.pair (.int .i64) (.int .i64))) (x0.snd))]), (.ro (.int .i64) (x1)), (.int .i64 (x2)), (.int .i64 (x3)), (.int .i64 (x4))] =
  bif !capsMay x0 x1 then (some (.tup [(.own (.pair (.int .i64) (.list (.int .i64))) ([])), (.own (.int .i64) ([])), (.int .i64 ((1600 : Int)))])) else (bif !hasV x0.fst x2 then (some (.tup [(.own (.pair (.int .i64) (.list (.int .i64))) ([])), (.own (.int .i64) ([])), (.int .i64 ((1600 : Int)))])) else (bif !hasV x0.fst x3 then (some (.tup [(.own (.pair (.int .i64) (.list (.int .i64))) ([])), (.own (.int .i64) ([])), (.int .i64 ((1600 : Int)))])) else (bif x2 == x3 then (some (.tup [(.own (.pair (.int .i64) (.list (.int .i64))) ([])), (.own (.int .i64) ([])), (.int .i64 ((1600 : Int)))])) else (bif x4 == (0 : Int) then (some (.tup [(.own (.pair (.int .i64) (.list (.int .i64))) ([])), (.own (.int .i64) ([])), (.int .i64 ((1600 : Int)))])) else (bif !rateB x4 then (some (.tup [(.own (.pair (.int .i64) (.list (.int .i64))) ([])), (.own (.int .i64) ([])), (.int .i64 ((1600 : Int)))])) else ((pushC ((x0, x1, x2, x3, x4))).bind (fun y0 => bif y0.snd.snd != (0 : Int) then (some (.tup [(.own (.pair (.int .i64) (.list (.int .i64))) ([])), (.own (.int .i64) ([])), (.int .i64 ((1600 : Int)))])) else (bif decide (y0.snd.fst < x4) then ((chk (graphMay x0) (some (reachRes x0 x1 y0.fst x2))).bind (fun y1 => some (.tup [(.own (.pair (.int .i64) (.list (.int .i64))) ([])), (.own (.int .i64) (y1.fst)), (.int .i64 ((0 : Int)))]))) else ((splitC ((x0, y0.fst, x2, x3))).bind (fun y1 => some (.tup [(.own (.pair (.int .i64) (.list (.int .i64))) (y1.fst)), (.own (.int .i64) ([])), (.int .i64 ((0 : Int)))]))))))))))) := by kernel_rfl
theorem f51.inl (k : Nat) : InlOk Try.prog (f51.E k) := inl_nil
theorem f51.sums (k : Nat) : SumsOk Try.prog (f51.E k) := (sums_cons ok92 (sums_cons ok95 (sums_cons ok98 (sums_cons ok99 (sums_cons ok100 (sums_cons ok101 sums_nil))))))
noncomputable def f102.E (k : Nat) : Env := mkEnv tt [] [] [(102, 3, [.kill (rg [(0, 0), (3, 4), (7, 23)]), .tidy])] [] k
noncomputable def f102.code : Go.Code := (Go.Func.body Try.f102).getD .skip
noncomputable def f102.l0 (k n : Nat) (p0 : Int) (p1 : Int) (p2 : Int) (p3 : List (Int × Int × Int)) (p4 : List Int) : Option V :=
  atPath (f102.E k) n ⟨[.undef, (.int .i64 (p0)), (.ptr (524304 : Nat) ((0 : Nat)) ((0 : Nat))), .undef, .undef, (.slw (1310736 : Nat)), (.int .i64 (p1)), .undef, .undef, .undef, .undef, .undef, .undef, .undef, .undef, .undef, .undef, .undef, .undef, .undef, .undef, .undef, .undef, .undef], [], [((524304 : Nat), .box [(.int .i64 (p2)), (.ro (.pair (.int .i64) (.pair (.int .i64) (.int .i64))) (p3))]), ((1310736 : Nat), .row (.int .i64) (p4))]⟩ 9 0 102 [.c 1, .c 1, .c 0, .c 1, .c 0] [] f102.code (finK tt Try.f102)
theorem f102.l0_eq (k n : Nat) (p0 : Int) (p1 : Int) (p2 : Int) (p3 : List (Int × Int × Int)) (p4 : List Int) : f102.l0 k (n + 1) p0 p1 p2 p3 p4 =
  bif decide (p1 < p2) then (chk (decide ((0 : Int) ≤ Go.IntKind.u64.wrap p1)) (bif bitsI Go.BinOp.and Go.IntKind.i64 (p0.fdiv ((2 : Int) ^ min (Go.IntKind.u64.wrap p1).toNat (64 : Nat))) (1 : Int) == (1 : Int) then (chk (decide ((p4 ++ [p1]).length * (8 : Nat) ≤ (140737488355328 : Nat))) (f102.l0 k n (p0) (Go.IntKind.i64.wrap (p1 + (1 : Int))) (p2) (p3) (p4 ++ [p1]))) else (f102.l0 k n (p0) (Go.IntKind.i64.wrap (p1 + (1 : Int))) (p2) (p3) (p4)))) else (some (.own (.int .i64) (p4))) := by kernel_rfl
theorem f102.eq (k : Nat) (x0 : Int × List (Int × Int × Int)) (x1 : Int) : evFn (f102.E k) 9 102 Try.f102 [(.agg [(.int .i64 (x0.fst)), (.ro (.pair (.int .i64) (.pair (.int .i64) (.int .i64))) (x0.snd))]), (.int .i64 (x1))] =
  f102.l0 k k (x1) ((0 : Int)) (x0.fst) (x0.snd) ([]) := by kernel_rfl
theorem f102.inl (k : Nat) : InlOk Try.prog (f102.E k) := inl_nil
theorem f102.sums (k : Nat) : SumsOk Try.prog (f102.E k) := sums_nil
end

section
set_option linter.unusedVariables false
set_option maxRecDepth 100000

/-- What goes out of a set, less what goes in. -/
def crossL (vs : List Int) : List Lk → List Int → Int
  | l :: gl, x :: f => ((bif amongB vs l.1 then x else 0) - (bif amongB vs l.2.1 then x else 0)) + crossL vs gl f
  | _, _ => 0
def sumV (vs : List Int) (m : Nat) (F : Int → Int) : Int := ((upto m).map fun v => bif amongB vs v then F v else 0).sum

theorem sum_map_add (F G : Int → Int) : ∀ l : List Int, (l.map fun v => F v + G v).sum = (l.map F).sum + (l.map G).sum
  | [] => rfl
  | a :: l => by simp only [List.map_cons, List.sum_cons, sum_map_add F G l]; omega
theorem sum_map_zero (F : Int → Int) : ∀ l : List Int, (∀ v ∈ l, F v = 0) → (l.map F).sum = 0
  | [], _ => rfl
  | a :: l, h => by
    rw [List.map_cons, List.sum_cons, h a (by simp), sum_map_zero F l fun v hv => h v (by simp [hv])]
    rfl
theorem sum_map_one (F : Int → Int) {a : Int} : ∀ l : List Int, l.Nodup → a ∈ l → (∀ v ∈ l, v ≠ a → F v = 0) → (l.map F).sum = F a
  | [], _, h, _ => by simp at h
  | b :: l, hn, h, hz => by
    rw [List.nodup_cons] at hn
    rw [List.map_cons, List.sum_cons]
    by_cases hb : b = a
    · subst hb
      rw [sum_map_zero F l fun v hv => hz v (by simp [hv]) fun e => hn.1 (e ▸ hv)]
      omega
    · rw [hz b (by simp) hb, sum_map_one F l hn.2 (by simpa [Ne.symm hb] using h) fun v hv => hz v (by simp [hv])]
      omega
theorem upto_nodup (m : Nat) : (upto m).Nodup := by
  unfold upto
  refine List.pairwise_map.2 (List.nodup_range.imp fun h e => h ?_)
  exact_mod_cast e

theorem sumV_gain (vs : List Int) {m : Nat} : ∀ (gl : List Lk) (f : List Int), (∀ l ∈ gl, (0 ≤ l.1 ∧ l.1 < (m : Int)) ∧ (0 ≤ l.2.1 ∧ l.2.1 < (m : Int))) → sumV vs m (gainV gl f) = crossL vs gl f
  | [], f, _ => sum_map_zero _ _ fun v _ => by cases amongB vs v <;> simp [gainV]
  | l :: gl, [], _ => sum_map_zero _ _ fun v _ => by cases amongB vs v <;> simp [gainV]
  | l :: gl, x :: f, h => by
    have ih := sumV_gain vs gl f fun l hl => h l (by simp [hl])
    obtain ⟨h1, h2⟩ := h l (by simp)
    have one : ∀ a : Int, 0 ≤ a ∧ a < (m : Int) → ((upto m).map fun v => bif amongB vs v then (bif a == v then x else 0) else 0).sum = bif amongB vs a then x else 0 := fun a ha => by
      rw [sum_map_one (a := a) _ _ (upto_nodup m) (upto_mem.2 ha) fun v _ hv => by
        rw [show (a == v) = false by simpa using Ne.symm hv, cF]
        cases amongB vs v <;> rfl]
      rw [show (a == a) = true by simp, cT]
    unfold sumV at ih ⊢
    have e : (fun v => bif amongB vs v then gainV (l :: gl) (x :: f) v else 0) = fun v => (bif amongB vs v then (bif l.1 == v then x else 0) else 0) + ((bif amongB vs v then -(bif l.2.1 == v then x else 0) else 0) + (bif amongB vs v then gainV gl f v else 0)) := by
      funext v
      simp only [gainV]
      cases amongB vs v <;> simp only [cT, cF] <;> omega
    have n : (fun v => bif amongB vs v then -(bif l.2.1 == v then x else 0) else 0) = fun v => -(bif amongB vs v then (bif l.2.1 == v then x else 0) else 0) := by
      funext v
      cases amongB vs v <;> simp only [cT, cF] <;> rfl
    have neg : ∀ (F : Int → Int) (l : List Int), (l.map fun v => -F v).sum = -(l.map F).sum := fun F l => by
      induction l with
      | nil => rfl
      | cons a l ih => simp only [List.map_cons, List.sum_cons, ih]; omega
    rw [e, sum_map_add, sum_map_add, one l.1 h1, n, neg, one l.2.1 h2, ih]
    simp only [crossL]
    omega

theorem cross_le (vs : List Int) : ∀ {gl : List Lk} {f cs : List Int}, f.length = gl.length → cs.length = gl.length → (∀ (i : Nat) (x c : Int), f[i]? = some x → cs[i]? = some c → 0 ≤ x ∧ x ≤ c) → crossL vs gl f ≤ worthL vs gl cs
  | [], f, cs, _, _, _ => by simp [crossL, worthL]
  | l :: gl, [], cs, h, _, _ => by simp at h
  | l :: gl, x :: f, [], _, h, _ => by simp at h
  | l :: gl, x :: f, c :: cs, h1, h2, h => by
    have ih := cross_le vs (gl := gl) (f := f) (cs := cs) (by simpa using h1) (by simpa using h2) fun i x c hx hc => h (i + 1) x c (by simpa using hx) (by simpa using hc)
    have h0 := h 0 x c rfl rfl
    simp only [crossL, worthL]
    unfold leavesB
    cases amongB vs l.1 <;> cases amongB vs l.2.1 <;> simp only [cT, cF, Bool.true_and, Bool.false_and, Bool.not_true, Bool.not_false] <;> omega

theorem cross_eq (vs : List Int) : ∀ {gl : List Lk} {f cs : List Int}, f.length = gl.length → cs.length = gl.length → (∀ (i : Nat) (l : Lk) (x c : Int), gl[i]? = some l → f[i]? = some x → cs[i]? = some c → (amongB vs l.1 = true → amongB vs l.2.1 = false → x = c) ∧ (amongB vs l.1 = false → amongB vs l.2.1 = true → x = 0)) → crossL vs gl f = worthL vs gl cs
  | [], f, cs, _, _, _ => by simp [crossL, worthL]
  | l :: gl, [], cs, h, _, _ => by simp at h
  | l :: gl, x :: f, [], _, h, _ => by simp at h
  | l :: gl, x :: f, c :: cs, h1, h2, h => by
    have ih := cross_eq vs (gl := gl) (f := f) (cs := cs) (by simpa using h1) (by simpa using h2) fun i l x c hl hx hc => h (i + 1) l x c (by simpa using hl) (by simpa using hx) (by simpa using hc)
    obtain ⟨a, b⟩ := h 0 l x c rfl rfl rfl
    simp only [crossL, worthL, ih]
    unfold leavesB
    cases e1 : amongB vs l.1 <;> cases e2 : amongB vs l.2.1 <;> simp only [cT, cF, Bool.true_and, Bool.false_and, Bool.not_true, Bool.not_false]
    · omega
    · have := b e1 e2; omega
    · have := a e1 e2; omega
    · omega

section
variable {g : Gr} {cs f : List Int} {src dst : Int} (hc : capsMay g cs = true)

include hc in
/-- What a flow brings goes out of each set that has src and not dst. -/
theorem FlowOk.cut (h : FlowOk g cs f src dst) (hs : 0 ≤ src ∧ src < g.1) {vs : List Int} (h1 : amongB vs src = true) (h2 : amongB vs dst = false) : gainV g.2 f src = crossL vs g.2 f := by
  have hg := caps_graph hc
  have hp := graphMay_parts hg
  have e := sumV_gain vs (m := g.1.toNat) g.2 f fun l hl => by
    obtain ⟨i, hi⟩ := List.mem_iff_getElem?.1 hl
    have := link_at hg hi
    omega
  rw [← e]
  unfold sumV
  rw [sum_map_one (a := src) _ _ (upto_nodup _) (upto_mem.2 (by omega)) fun v hv hne => ?_, h1, cT]
  have hv := upto_mem.1 hv
  by_cases hd : v = dst
  · subst hd
    rw [h2, cF]
  · rw [h.still v (by omega) hne hd]
    cases amongB vs v <;> rfl

include hc in
theorem FlowOk.least (h : FlowOk g cs f src dst) (hs : 0 ≤ src ∧ src < g.1) {vs : List Int} (h1 : amongB vs src = true) (h2 : amongB vs dst = false) : gainV g.2 f src ≤ worthL vs g.2 cs := by
  have hl := withinF_len h.within
  have hcl := capsMay_len hc
  rw [h.cut hc hs h1 h2]
  exact cross_le vs (by omega) hcl fun i x c hx hc => withinF_get h.within hx hc

theorem upto_rising (m : Nat) (P : Int → Bool) : ∀ (n i : Nat) (p : Option Int), n + i = m → (∀ q, p = some q → q < (i : Int)) → risingB (m : Int) p (((upto m).drop i).filter P) = true
  | 0, i, p, h, _ => by
    rw [List.drop_eq_nil_of_le (by rw [upto_length]; omega)]
    rfl
  | n + 1, i, p, h, hp => by
    have hu : i < (upto m).length := by rw [upto_length]; omega
    have hg : (upto m)[i] = (i : Int) := (List.getElem?_eq_some_iff.1 (upto_get (by omega))).2
    rw [drop_filter _ hu, hg]
    cases P (i : Int) with
    | false =>
      rw [cF]
      exact upto_rising m P n (i + 1) p (by omega) fun q hq => by have := hp q hq; omega
    | true =>
      rw [cT]
      simp only [risingB]
      rw [show hasV (m : Int) (i : Int) = true from decide_eq_true (by omega), upto_rising m P n (i + 1) (some (i : Int)) (by omega) fun q hq => by
        obtain rfl := Option.some.inj hq
        omega]
      cases p with
      | none => rfl
      | some q =>
        have hq : decide (q < (i : Int)) = true := decide_eq_true (hp q rfl)
        show (true && (decide (q < (i : Int)) && true)) = true
        rw [hq]
        rfl

theorem reach_among {o : List Int} {v : Int} (hv : 0 ≤ v ∧ v < (o.length : Int)) : amongB (reachL o) v = decide (rdI o v ≥ 0) := by
  cases h : decide (rdI o v ≥ 0) with
  | true => exact among_mem.2 (List.mem_filter.2 ⟨upto_mem.2 hv, h⟩)
  | false =>
    cases hb : amongB (reachL o) v with
    | false => rfl
    | true =>
      have := (List.mem_filter.1 (among_mem.1 hb)).2
      rw [h] at this
      cases this

include hc in
/-- Where no way leads on, the set of what is reached takes just what the flow brings. -/
theorem FlowOk.full (h : FlowOk g cs f src dst) (hs : 0 ≤ src ∧ src < g.1) (hd : 0 ≤ dst ∧ dst < g.1) (hno : rdI (levelsOf g cs f src) dst < 0) :
    cutMay g src dst (reachL (levelsOf g cs f src)) = true ∧ worthL (reachL (levelsOf g cs f src)) g.2 cs = gainV g.2 f src := by
  have hg := caps_graph hc
  have hp := graphMay_parts hg
  have hL := levels_ok (cs := cs) (f := f) hg hs
  have hol := hL.lv.len
  have hl := withinF_len h.within
  have hcl := capsMay_len hc
  generalize levelsOf g cs f src = o at hL hol hno
  have am : ∀ v, 0 ≤ v ∧ v < g.1 → amongB (reachL o) v = decide (rdI o v ≥ 0) := fun v hv => reach_among (by omega)
  have h1 : amongB (reachL o) src = true := by rw [am src hs, hL.src0]; rfl
  have h2 : amongB (reachL o) dst = false := by rw [am dst hd]; exact decide_eq_false (by omega)
  have hr : risingB g.1 none (reachL o) = true := by
    have := upto_rising o.length (fun v => decide (rdI o v ≥ 0)) o.length 0 none (by omega) (fun q hq => by cases hq)
    rw [List.drop_zero, show (o.length : Int) = g.1 by omega] at this
    exact this
  refine ⟨?_, ?_⟩
  · unfold cutMay
    rw [hr, hg, h1, h2, show hasV g.1 dst = true from decide_eq_true hd]
    rfl
  · rw [h.cut hc hs h1 h2]
    refine (cross_eq _ (by omega) hcl fun i l x c hlk hx hcx => ?_).symm
    have hi := idx_lt hlk
    obtain ⟨l1, l2, _⟩ := link_at hg hlk
    have hw := withinF_get h.within hx hcx
    rw [am _ l1, am _ l2]
    have elk : lk g.2 (i : Int) = l := lk_nat hlk
    constructor
    · intro a1 a2
      have a1 := of_decide_eq_true a1
      have a2 := of_decide_eq_false a2
      have hb : backB (2 * (i : Int)) = false := by unfold backB; simp
      have hL' : arcL (2 * (i : Int)) = (i : Int) := by unfold arcL; omega
      have ef : arcFrom g.2 (2 * (i : Int)) = l.1 := by unfold arcFrom; rw [hb, hL', cF, elk]
      have et : arcTo g.2 (2 * (i : Int)) = l.2.1 := by unfold arcTo; rw [hb, hL', cF, elk]
      have er : roomA cs f (2 * (i : Int)) = c - x := by unfold roomA; rw [hb, hL', cF, rdI_some hcx, rdI_some hx]
      by_cases hroom : c - x > 0
      · have := hL.on l.1 l1 (by omega) (2 * (i : Int)) (rowA_mem.2 ⟨decide_eq_true (by omega), ef⟩) (by rw [er]; exact hroom)
        rw [et] at this
        omega
      · omega
    · intro a1 a2
      have a1 := of_decide_eq_false a1
      have a2 := of_decide_eq_true a2
      have hb : backB (2 * (i : Int) + 1) = true := by unfold backB; simp
      have hL' : arcL (2 * (i : Int) + 1) = (i : Int) := by unfold arcL; omega
      have ef : arcFrom g.2 (2 * (i : Int) + 1) = l.2.1 := by unfold arcFrom; rw [hb, hL', cT, elk]
      have et : arcTo g.2 (2 * (i : Int) + 1) = l.1 := by unfold arcTo; rw [hb, hL', cT, elk]
      have er : roomA cs f (2 * (i : Int) + 1) = x := by unfold roomA; rw [hb, hL', cT, rdI_some hx]
      by_cases hroom : x > 0
      · have := hL.on l.2.1 l2 (by omega) (2 * (i : Int) + 1) (rowA_mem.2 ⟨decide_eq_true (by omega), ef⟩) (by rw [er]; exact hroom)
        rw [et] at this
        omega
      · omega

theorem pathB_form {ls : List Int} (h : pathB g src dst ls = true) : decide (ls.length ≤ 64) = true ∧ ls.all (lkIn g.2) = true := by
  unfold pathB at h
  rw [Bool.and_eq_true] at h
  obtain ⟨us, h1, _⟩ := walkOf_ok (eq_of_beq h.1)
  obtain ⟨_, _, h2, h3⟩ := walkForm_all h1
  exact ⟨decide_eq_true h2, h3⟩

include hc in
/-- Paths of a flow are what is wanted, and fit. -/
theorem SplitOk.fits (h : FlowOk g cs f src dst) {ps : List Pt} (hp : SplitOk g f src dst ps) {want : Int} (hv : gainV g.2 f src = want) (hw : 0 < want ∧ want ≤ maxRate) : mayB g src dst want ps = true ∧ fitsOf g cs ps = (true, 0) := by
  have hg := caps_graph hc
  have hl := withinF_len h.within
  have hcl := capsMay_len hc
  have hsum := hp.sum
  have hpos : ∀ x ∈ ratesOf ps, 0 ≤ x := fun x hx => by
    obtain ⟨p, h1, rfl⟩ := List.mem_map.1 hx
    have := (hp.all p h1).1
    omega
  have hlen := hp.len
  constructor
  · unfold mayB
    rw [hg, decide_eq_true hw.1, decide_eq_true hlen, sumUp_eq (ratesOf ps) 0 hpos (by omega) (by omega), List.all_eq_true.2 fun p hm => by
      obtain ⟨h1, h2⟩ := hp.all p hm
      rw [decide_eq_true h1, h2]
      rfl]
    rw [some_beq, show (0 + (ratesOf ps).sum == want) = true by simp; omega]
    rfl
  · obtain ⟨o, o1, o2, o3⟩ := hp.loads
    have hform : bForm g ps = true := by
      unfold bForm
      rw [hg, decide_eq_true hlen, List.all_eq_true.2 fun p hm => by
        obtain ⟨h1, h2⟩ := hp.all p hm
        obtain ⟨h3, h4⟩ := pathB_form h2
        unfold ptOk
        have h5 := mem_le_sum hpos (List.mem_map_of_mem (f := fun p : Pt => p.1) hm)
        rw [h3, h4, show rateB p.1 = true from decide_eq_true (by
          have e : (List.map (fun p : Pt => p.1) ps).sum = (ratesOf ps).sum := rfl
          omega)]
        rfl]
      rfl
    have hlo : loadsOf g ps = (o, 0) := by
      unfold loadsOf
      rw [hform, cT, o1]
    unfold fitsOf
    rw [hc, cT, hlo, show ((0 : Int) != 0) = false by rfl, cF]
    rw [show (o.zip cs).any overB = false from List.any_eq_false.2 fun x hx => by
      obtain ⟨i, hi⟩ := List.mem_iff_getElem?.1 hx
      obtain ⟨h1, h2⟩ := List.getElem?_zip_eq_some.1 hi
      have hi' := idx_lt h2
      have a1 := o3 (i : Int) (by omega)
      have a2 := within_at h.within (i := (i : Int)) (by omega)
      rw [rdI_some h1] at a1
      rw [rdI_some h2] at a2
      unfold overB
      rw [decide_eq_false (by omega : ¬ x.1 > x.2)]
      simp]
    rfl
end

/-- What a route comes to. -/
def routeForm (g : Gr) (cs : List Int) (src dst want : Int) : Bool := capsMay g cs && (hasV g.1 src && (hasV g.1 dst && (!(src == dst) && (!(want == 0) && rateB want))))
structure RouteOk (g : Gr) (cs : List Int) (src dst want : Int) (ps : List Pt) (vs : List Int) : Prop where
  either : (vs = [] ∧ mayB g src dst want ps = true ∧ fitsOf g cs ps = (true, 0) ∧ ∀ us, amongB us src = true → amongB us dst = false → want ≤ worthL us g.2 cs) ∨
    (ps = [] ∧ cutMay g src dst vs = true ∧ worthL vs g.2 cs < want)
def routeQ (d : Gr × (List Int × (Int × (Int × Int)))) (x : List Pt × (List Int × Int)) : Prop :=
  bif routeForm d.1 d.2.1 d.2.2.1 d.2.2.2.1 d.2.2.2.2 then x.2.2 = 0 ∧ RouteOk d.1 d.2.1 d.2.2.1 d.2.2.2.1 d.2.2.2.2 x.1 x.2.1 else x = ([], ([], 1600))
@[reducible] def resRt (x : List Pt × (List Int × Int)) : V := .tup [.own tP x.1, .own tI x.2.1, .int .i64 x.2.2]
def routeP (d : Gr × (List Int × (Int × (Int × Int)))) (x : List Pt × (List Int × Int)) : Prop :=
  routeQ d x ∧ ∃ k, evFn (f51.E k) 9 51 Try.f51 (encL [tG, tL, tI, tI, tI] d) = some (resRt x)
noncomputable def routeC (d : Gr × (List Int × (Int × (Int × Int)))) : Option (List Pt × (List Int × Int)) := relC routeP d

theorem f51_is (d : Gr × (List Int × (Int × (Int × Int)))) : ∃ x, routeP d x := by
  obtain ⟨g, cs, src, dst, want⟩ := d
  cases hf : routeForm g cs src dst want with
  | false =>
    refine ⟨([], ([], 1600)), ?_, 1, (f51.eq _ g cs src dst want).trans ?_⟩
    · unfold routeQ
      dsimp only
      rw [hf, cF]
    · unfold routeForm at hf
      revert hf
      cases capsMay g cs <;> cases hasV g.1 src <;> cases hasV g.1 dst <;> cases src == dst <;> cases want == 0 <;> cases rateB want <;> intro hf <;> simp only [Bool.not_true, Bool.not_false, cT, cF] <;> cases hf
  | true =>
    have hf' := hf
    unfold routeForm at hf'
    simp only [Bool.and_eq_true, Bool.not_eq_true'] at hf'
    obtain ⟨hc, hs, hd, hne, hw0, hm⟩ := hf'
    have hm' : 0 ≤ want ∧ want ≤ maxRate := of_decide_eq_true hm
    have hs' : 0 ≤ src ∧ src < g.1 := of_decide_eq_true hs
    have hd' : 0 ≤ dst ∧ dst < g.1 := of_decide_eq_true hd
    have hw0' := ne_of_beq_false hw0
    have hne' := ne_of_beq_false hne
    have hg := caps_graph hc
    obtain ⟨y, y1, y2⟩ := pushC_is (g := g) (cs := cs) (src := src) (dst := dst) (want := want)
    unfold pushQ at y2
    dsimp only at y2
    rw [show pushForm g cs src dst want = true by unfold pushForm; rw [hc, hs, hd, hne, hm]; rfl, cT] at y2
    obtain ⟨y2, y3⟩ := y2
    have hle := y3.le
    have ev : ∀ {r : V}, (bif decide (y.2.1 < want) then ((chk (graphMay g) (some (reachRes g cs y.1 src))).bind (fun y1 => some (.tup [(.own (.pair (.int .i64) (.list (.int .i64))) ([])), (.own (.int .i64) (y1.fst)), (.int .i64 ((0 : Int)))]))) else ((splitC ((g, y.fst, src, dst))).bind (fun y1 => some (.tup [(.own (.pair (.int .i64) (.list (.int .i64))) (y1.fst)), (.own (.int .i64) ([])), (.int .i64 ((0 : Int)))])))) = some r → evFn (f51.E 1) 9 51 Try.f51 (encL [tG, tL, tI, tI, tI] ((g, (cs, (src, (dst, want)))) : Gr × (List Int × (Int × (Int × Int))))) = some r := fun h => (f51.eq _ g cs src dst want).trans (by
      rw [hc, hs, hd, hne, hw0, hm, Bool.not_true, cF, cF, cF, cF, cF, cF, y1, bS, y2, show ((0 : Int) != 0) = false by rfl, cF]
      exact h)
    by_cases hlt : y.2.1 < want
    · have hno := y3.less hlt
      obtain ⟨z1, z2⟩ := y3.flow.full hc hs' hd' hno
      have hL : levelsRes g cs y.1 src = (levelsOf g cs y.1 src, 0) := by
        unfold levelsRes liesB
        rw [hc, y3.flow.within, hs]
        rfl
      refine ⟨([], (reachL (levelsOf g cs y.1 src), 0)), ?_, 1, ev ?_⟩
      · unfold routeQ
        dsimp only
        rw [hf, cT]
        exact ⟨rfl, ⟨.inr ⟨rfl, z1, by rw [z2, y3.gain]; exact hlt⟩⟩⟩
      · rw [decide_eq_true hlt, cT, hg, kT, bS]
        unfold reachRes
        rw [hL, show ((0 : Int) != 0) = false by rfl, cF]
    · have hv : gainV g.2 y.1 src = want := by rw [y3.gain]; omega
      obtain ⟨ps, p1, p2⟩ := splitC_is hc y3.flow hs hd hne'
      obtain ⟨q1, q2⟩ := p2.fits hc y3.flow hv (by omega)
      refine ⟨(ps, ([], 0)), ?_, 1, ev ?_⟩
      · unfold routeQ
        dsimp only
        rw [hf, cT]
        refine ⟨rfl, ⟨.inl ⟨rfl, q1, q2, fun us h1 h2 => ?_⟩⟩⟩
        rw [← hv]
        exact y3.flow.least hc hs' h1 h2
      · rw [decide_eq_false hlt, cF, p1, bS]

theorem routeC_is (d : Gr × (List Int × (Int × (Int × Int)))) : ∃ x, routeC d = some x ∧ routeQ d x := by
  obtain ⟨y, e1, e2⟩ := relC_is (f51_is d)
  exact ⟨y, e1, e2.1⟩

noncomputable def S51 : Summ := summ [tG, tL, tI, tI, tI] (List Pt × (List Int × Int)) routeC resRt
theorem ok51 : SumOk Try.prog 51 S51 :=
  sum_k hmix f51.E (fn := Try.f51) (code := f51.code) (by kernel_rfl) (by kernel_rfl) (by kernel_rfl) (fun _ => ttOk) f51.sums f51.inl fun d x hx => (relC_some (P := routeP) hx).2
end

section
set_option maxRecDepth 100000
set_option linter.unusedVariables false
noncomputable def f57.E (k : Nat) : Env := mkEnv tt [] [] [] [] k
noncomputable def f57.code : Go.Code := (Go.Func.body Try.f57).getD .skip
theorem f57.eq (k : Nat) : evFn (f57.E k) 9 57 Try.f57 [] =
  some (.agg [(.int .i64 ((3 : Int))), (.own (.pair (.int .i64) (.pair (.int .i64) (.int .i64))) ([((0 : Int), (1 : Int), (5 : Int)), ((1 : Int), (2 : Int), (4 : Int)), ((0 : Int), (2 : Int), (3 : Int))]))]) := by kernel_rfl
theorem f57.inl (k : Nat) : InlOk Try.prog (f57.E k) := inl_nil
theorem f57.sums (k : Nat) : SumsOk Try.prog (f57.E k) := sums_nil
end

section
noncomputable def S57 : Summ := S110
theorem ok57 : SumOk Try.prog 57 S57 :=
  sum_k hmix f57.E (fn := Try.f57) (code := f57.code) (by kernel_rfl) (by kernel_rfl) (by kernel_rfl) (fun _ => ttOk) f57.sums f57.inl fun d x hx => by
    obtain rfl := Option.some.inj hx
    exact ⟨0, f57.eq 0⟩
end

section
set_option maxRecDepth 100000
set_option linter.unusedVariables false
noncomputable def f52.E (k : Nat) : Env := mkEnv tt [(30, S30), (31, S31), (51, S51), (55, S55), (57, S57)] [] [] [] k
noncomputable def f52.code : Go.Code := (Go.Func.body Try.f52).getD .skip
theorem f52.eq (k : Nat) : evFn (f52.E k) 9 52 Try.f52 [] =
  (routeC ((((3 : Int), [((0 : Int), (1 : Int), (5 : Int)), ((1 : Int), (2 : Int), (4 : Int)), ((0 : Int), (2 : Int), (3 : Int))]), [(5 : Int), (4 : Int), (3 : Int)], (0 : Int), (2 : Int), (7 : Int)))).bind (fun y0 => (routeC ((((3 : Int), [((0 : Int), (1 : Int), (5 : Int)), ((1 : Int), (2 : Int), (4 : Int)), ((0 : Int), (2 : Int), (3 : Int))]), [(5 : Int), (4 : Int), (3 : Int)], (0 : Int), (2 : Int), (8 : Int)))).bind (fun y1 => (routeC ((((3 : Int), [((0 : Int), (1 : Int), (5 : Int)), ((1 : Int), (2 : Int), (4 : Int)), ((0 : Int), (2 : Int), (3 : Int))]), [(5 : Int), (4 : Int), (3 : Int)], (0 : Int), (2 : Int), (0 : Int)))).bind (fun y2 => bif mayB ((3 : Int), [((0 : Int), (1 : Int), (5 : Int)), ((1 : Int), (2 : Int), (4 : Int)), ((0 : Int), (2 : Int), (3 : Int))]) (0 : Int) (2 : Int) (7 : Int) y0.fst then (bif (↑y0.snd.fst.length : Int) == (0 : Int) then (bif y0.snd.snd == (0 : Int) then (bif (↑y1.fst.length : Int) == (0 : Int) then ((chk (decide (y1.snd.fst.length < (4611686018427387904 : Nat))) (some (sameB y1.snd.fst [(0 : Int), (1 : Int)]))).bind (fun y3 => bif y3 then (bif y1.snd.snd == (0 : Int) then (some (.bool (y2.snd.snd == (1600 : Int)))) else (some (.bool (false)))) else (some (.bool (false))))) else (some (.bool (false)))) else (some (.bool (false)))) else (some (.bool (false)))) else (some (.bool (false)))))) := by kernel_rfl
theorem f52.inl (k : Nat) : InlOk Try.prog (f52.E k) := inl_nil
theorem f52.sums (k : Nat) : SumsOk Try.prog (f52.E k) := (sums_cons ok30 (sums_cons ok31 (sums_cons ok51 (sums_cons ok55 (sums_cons ok57 sums_nil)))))
end

section
set_option linter.unusedVariables false

def smallG : Gr := ((3 : Int), [((0 : Int), (1 : Int), (5 : Int)), ((1 : Int), (2 : Int), (4 : Int)), ((0 : Int), (2 : Int), (3 : Int))])

theorem small_worth {vs : List Int} (h0 : amongB vs 0 = true) (h2 : amongB vs 2 = false) : worthL vs smallG.2 [5, 4, 3] = bif amongB vs 1 then 7 else 8 := by
  unfold smallG
  simp only [worthL, leavesB, h0, h2]
  cases amongB vs 1 <;> rfl

theorem cutMay_parts {g : Gr} {src dst : Int} {vs : List Int} (h : cutMay g src dst vs = true) : risingB g.1 none vs = true ∧ amongB vs src = true ∧ amongB vs dst = false := by
  unfold cutMay at h
  simp only [Bool.and_eq_true, Bool.not_eq_true'] at h
  exact ⟨h.1.1, h.2.2.1, h.2.2.2⟩

theorem small_vs {vs : List Int} (hr : risingB 3 none vs = true) (h0 : amongB vs 0 = true) (h1 : amongB vs 1 = true) (h2 : amongB vs 2 = false) : vs = [0, 1] := by
  have h0 := among_mem.1 h0
  have h1 := among_mem.1 h1
  have h2 : (2 : Int) ∉ vs := fun h => by rw [among_mem.2 h] at h2; cases h2
  rcases vs with _ | ⟨a, _ | ⟨b, _ | ⟨c, t⟩⟩⟩
  · simp at h0
  · simp only [List.mem_singleton] at h0 h1
    omega
  · simp only [risingB, hasV, Bool.and_eq_true, decide_eq_true_eq, List.mem_cons, List.not_mem_nil, or_false, not_or] at hr h0 h1 h2
    obtain rfl : a = 0 := by omega
    obtain rfl : b = 1 := by omega
    rfl
  · simp only [risingB, hasV, Bool.and_eq_true, decide_eq_true_eq, List.mem_cons, not_or] at hr h2
    omega

theorem small_7 : ∃ x, routeC (smallG, ([5, 4, 3], ((0 : Int), ((2 : Int), (7 : Int))))) = some x ∧ mayB smallG 0 2 7 x.1 = true ∧ x.2 = ([], 0) := by
  obtain ⟨x, e1, e2⟩ := routeC_is (smallG, ([5, 4, 3], ((0 : Int), ((2 : Int), (7 : Int)))))
  unfold routeQ at e2
  dsimp only at e2
  rw [show routeForm smallG [5, 4, 3] 0 2 7 = true by kernel_rfl, cT] at e2
  obtain ⟨e2, e3⟩ := e2
  rcases e3.either with ⟨h1, h2, _, _⟩ | ⟨_, h2, h3⟩
  · exact ⟨x, e1, h2, by rw [← e2, ← h1]⟩
  · obtain ⟨_, h4, h5⟩ := cutMay_parts h2
    rw [small_worth h4 h5] at h3
    cases h6 : amongB x.2.1 1 <;> rw [h6] at h3 <;> simp only [cT, cF] at h3 <;> omega

theorem small_8 : ∃ x, routeC (smallG, ([5, 4, 3], ((0 : Int), ((2 : Int), (8 : Int))))) = some x ∧ x = ([], ([0, 1], 0)) := by
  obtain ⟨x, e1, e2⟩ := routeC_is (smallG, ([5, 4, 3], ((0 : Int), ((2 : Int), (8 : Int)))))
  unfold routeQ at e2
  dsimp only at e2
  rw [show routeForm smallG [5, 4, 3] 0 2 8 = true by kernel_rfl, cT] at e2
  obtain ⟨e2, e3⟩ := e2
  rcases e3.either with ⟨_, _, _, h4⟩ | ⟨h1, h2, h3⟩
  · have := h4 [0, 1] rfl rfl
    rw [small_worth rfl rfl, show amongB [0, 1] 1 = true by rfl, cT] at this
    omega
  · obtain ⟨hr, h4, h5⟩ := cutMay_parts h2
    rw [small_worth h4 h5] at h3
    have h6 : amongB x.2.1 1 = true := by
      cases h6 : amongB x.2.1 1 with
      | true => rfl
      | false => rw [h6, cF] at h3; omega
    have := small_vs hr h4 h6 h5
    exact ⟨x, e1, by rw [← h1, ← this, ← e2]⟩

theorem small_0 : ∃ x, routeC (smallG, ([5, 4, 3], ((0 : Int), ((2 : Int), (0 : Int))))) = some x ∧ x = ([], ([], 1600)) := by
  obtain ⟨x, e1, e2⟩ := routeC_is (smallG, ([5, 4, 3], ((0 : Int), ((2 : Int), (0 : Int)))))
  unfold routeQ at e2
  dsimp only at e2
  rw [show routeForm smallG [5, 4, 3] 0 2 0 = false by kernel_rfl, cF] at e2
  exact ⟨x, e1, e2⟩

noncomputable def S52 : Summ := summ [] Bool (fun _ => some true) .bool
theorem ok52 : SumOk Try.prog 52 S52 :=
  sum_k hmix f52.E (fn := Try.f52) (code := f52.code) (by kernel_rfl) (by kernel_rfl) (by kernel_rfl) (fun _ => ttOk) f52.sums f52.inl fun d x hx => by
    obtain rfl := Option.some.inj hx
    refine ⟨0, (f52.eq 0).trans ?_⟩
    obtain ⟨a, a1, a2, a3⟩ := small_7
    obtain ⟨b, b1, b2⟩ := small_8
    obtain ⟨c, c1, c2⟩ := small_0
    unfold smallG at a1 a2 b1 c1
    rw [a1, bS, b1, bS, c1, bS, a2, cT, a3, b2, c2]
    kernel_rfl
end

section
set_option maxRecDepth 100000
set_option linter.unusedVariables false
noncomputable def f12.E (k : Nat) : Env := mkEnv tt [(31, S31), (51, S51), (52, S52)] [] [] [] k
noncomputable def f12.code : Go.Code := (Go.Func.body Try.f12).getD .skip
theorem f12.eq (k : Nat) (x0 : Int × List (Int × Int × Int)) (x1 : List Int) (x2 : Int) (x3 : Int) (x4 : Int) (x5 : Int) : evFn (f12.E k) 9 12 Try.f12 [(.agg [(.int .i64 (x0.fst)), (.ro (.pair (.int .i64) (.pair (.int .i64) (.int .i64))) (x0.snd))]), (.ro (.int .i64) (x1)), (.int .i64 (x2)), (.int .i64 (x3)), (.int .i64 (x4)), (.int .i64 (x5))] =
  bif decide (x4 > x5) then (some (.bool (true))) else ((routeC ((x0, x1, x2, x3, x4))).bind (fun y0 => (routeC ((x0, x1, x2, x3, x5))).bind (fun y1 => bif y0.snd.snd != (0 : Int) then (some (.bool (true))) else (bif y1.snd.snd != (0 : Int) then (some (.bool (true))) else (bif (↑y1.fst.length : Int) == (0 : Int) then (some (.bool (true))) else (some (.bool (decide ((↑y0.fst.length : Int) > (0 : Int)))))))))) := by kernel_rfl
theorem f12.inl (k : Nat) : InlOk Try.prog (f12.E k) := inl_nil
theorem f12.sums (k : Nat) : SumsOk Try.prog (f12.E k) := (sums_cons ok31 (sums_cons ok51 (sums_cons ok52 sums_nil)))
noncomputable def f23.E (k : Nat) : Env := mkEnv tt [(31, S31), (46, S46), (51, S51), (52, S52), (69, S69), (72, S72)] [] [] [] k
noncomputable def f23.code : Go.Code := (Go.Func.body Try.f23).getD .skip
theorem f23.eq (k : Nat) (x0 : Int × List (Int × Int × Int)) (x1 : List Int) (x2 : Int) (x3 : Int) (x4 : Int) : evFn (f23.E k) 9 23 Try.f23 [(.agg [(.int .i64 (x0.fst)), (.ro (.pair (.int .i64) (.pair (.int .i64) (.int .i64))) (x0.snd))]), (.ro (.int .i64) (x1)), (.int .i64 (x2)), (.int .i64 (x3)), (.int .i64 (x4))] =
  (routeC ((x0, x1, x2, x3, x4))).bind (fun y0 => bif y0.snd.snd != (0 : Int) then (some (.bool (true))) else ((chk (decide (y0.snd.fst.length < (4611686018427387904 : Nat))) (some (proves x0 x1 x2 x3 x4 y0.snd.fst))).bind (fun y1 => bif (fitsOf x0 x1 y0.fst).snd == (0 : Int) then (bif y1.snd == (0 : Int) then (bif mayB x0 x2 x3 x4 y0.fst then (some (.bool (!(fitsOf x0 x1 y0.fst).fst == y1.fst))) else (some (.bool (!false == y1.fst)))) else (some (.bool (false)))) else (some (.bool (false)))))) := by kernel_rfl
theorem f23.inl (k : Nat) : InlOk Try.prog (f23.E k) := inl_nil
theorem f23.sums (k : Nat) : SumsOk Try.prog (f23.E k) := (sums_cons ok31 (sums_cons ok46 (sums_cons ok51 (sums_cons ok52 (sums_cons ok69 (sums_cons ok72 sums_nil))))))
end

section
set_option linter.unusedVariables false

theorem rising_len {n : Int} : ∀ {vs : List Int} {q : Int}, q < n → risingB n (some q) vs = true → (vs.length : Int) ≤ n - 1 - q
  | [], q, h, _ => by simp only [List.length_nil]; omega
  | v :: vs, q, h, hr => by
    simp only [risingB, hasV, Bool.and_eq_true, decide_eq_true_eq] at hr
    have := rising_len (vs := vs) hr.1.2 hr.2.2
    simp only [List.length_cons]
    omega
theorem cut_len {g : Gr} {src dst : Int} {vs : List Int} (h : cutMay g src dst vs = true) : vs.length ≤ 8 := by
  have hr := (cutMay_parts h).1
  unfold cutMay at h
  simp only [Bool.and_eq_true] at h
  have hp := graphMay_parts h.1.2
  cases vs with
  | nil => simp
  | cons v vs =>
    simp only [risingB, hasV, Bool.and_eq_true, decide_eq_true_eq] at hr
    have := rising_len hr.1.2 hr.2.2
    simp only [List.length_cons]
    omega

theorem mayB_some {g : Gr} {src dst want : Int} {ps : List Pt} (h : mayB g src dst want ps = true) : ps ≠ [] := by
  rintro rfl
  unfold mayB at h
  simp only [Bool.and_eq_true] at h
  have h1 := of_decide_eq_true h.2.1
  have h2 := h.2.2.2.2
  simp only [ratesOf, List.map_nil, sumUp, some_beq] at h2
  have := eq_of_beq h2
  omega

theorem law12_ev (d : Gr × (List Int × (Int × (Int × (Int × Int))))) :
    ∃ E c, TtOk Try.prog E.tt ∧ SumsOk Try.prog E ∧ InlOk Try.prog E ∧ evFn E c 12 Try.f12 (encL [tG, tL, tI, tI, tI, tI] d) = some (.bool true) := by
  obtain ⟨g, cs, src, dst, a, b⟩ := d
  refine ⟨f12.E 1, 9, ttOk, f12.sums _, f12.inl _, (f12.eq _ g cs src dst a b).trans ?_⟩
  by_cases hab : a > b
  · rw [decide_eq_true hab, cT]
  · rw [decide_eq_false hab, cF]
    obtain ⟨x, x1, x2⟩ := routeC_is (g, (cs, (src, (dst, a))))
    obtain ⟨y, y1, y2⟩ := routeC_is (g, (cs, (src, (dst, b))))
    rw [x1, bS, y1, bS]
    cases hx : x.2.2 != 0 with
    | true => rw [cT]
    | false =>
      cases hy : y.2.2 != 0 with
      | true => rw [cF, cT]
      | false =>
        rw [cF, cF]
        cases hl : (y.1.length : Int) == 0 with
        | true => rw [cT]
        | false =>
          rw [cF]
          unfold routeQ at x2 y2
          dsimp only at x2 y2
          cases hfx : routeForm g cs src dst a with
          | false => rw [hfx, cF] at x2; rw [x2] at hx; cases hx
          | true =>
            cases hfy : routeForm g cs src dst b with
            | false => rw [hfy, cF] at y2; rw [y2] at hy; cases hy
            | true =>
              rw [hfx, cT] at x2
              rw [hfy, cT] at y2
              rcases y2.2.either with ⟨_, _, _, h4⟩ | ⟨h1, _⟩
              · rcases x2.2.either with ⟨_, h5, _⟩ | ⟨_, h5, h6⟩
                · have := List.length_pos_iff.2 (mayB_some h5)
                  rw [decide_eq_true (by omega : (x.1.length : Int) > 0)]
                · obtain ⟨_, c1, c2⟩ := cutMay_parts h5
                  have := h4 _ c1 c2
                  omega
              · rw [h1] at hl
                cases hl

theorem law23_ev (d : Gr × (List Int × (Int × (Int × Int)))) :
    ∃ E c, TtOk Try.prog E.tt ∧ SumsOk Try.prog E ∧ InlOk Try.prog E ∧ evFn E c 23 Try.f23 (encL [tG, tL, tI, tI, tI] d) = some (.bool true) := by
  obtain ⟨g, cs, src, dst, want⟩ := d
  refine ⟨f23.E 1, 9, ttOk, f23.sums _, f23.inl _, (f23.eq _ g cs src dst want).trans ?_⟩
  obtain ⟨x, x1, x2⟩ := routeC_is (g, (cs, (src, (dst, want))))
  rw [x1, bS]
  cases hx : x.2.2 != 0 with
  | true => rw [cT]
  | false =>
    rw [cF]
    unfold routeQ at x2
    dsimp only at x2
    cases hf : routeForm g cs src dst want with
    | false => rw [hf, cF] at x2; rw [x2] at hx; cases hx
    | true =>
      rw [hf, cT] at x2
      have hf' := hf
      unfold routeForm at hf'
      simp only [Bool.and_eq_true, Bool.not_eq_true'] at hf'
      obtain ⟨hc, hs, hd, hne, hw0, hm⟩ := hf'
      have hg := caps_graph hc
      have hm' : 0 ≤ want ∧ want ≤ maxRate := of_decide_eq_true hm
      have hw0' := ne_of_beq_false hw0
      rcases x2.2.either with ⟨h1, h2, h3, _⟩ | ⟨h1, h2, h3⟩
      · rw [h1, chk_eq (decide_eq_true (by simp)), bS, h3, h2, cT, show proves g cs src dst want [] = (false, 0) by
          unfold proves cutMay
          rw [hc, cT]
          simp [amongB]]
        rfl
      · have hl := cut_len h2
        rw [chk_eq (decide_eq_true (by omega)), bS, h1, show proves g cs src dst want x.2.1 = (true, 0) by
          unfold proves
          rw [hc, cT, h2, decide_eq_true h3]
          rfl]
        have hz : (loadsOf g []) = (List.replicate g.2.length 0, 0) := by
          unfold loadsOf
          rw [show bForm g [] = true by unfold bForm; rw [hg]; rfl, cT]
          rfl
        rw [show fitsOf g cs [] = (true, 0) by
          unfold fitsOf
          rw [hc, cT, hz, show ((0 : Int) != 0) = false by rfl, cF]
          rw [show ((List.replicate g.2.length (0 : Int)).zip cs).any overB = false from List.any_eq_false.2 fun y hy => by
            obtain ⟨i, hi⟩ := List.mem_iff_getElem?.1 hy
            obtain ⟨e1, e2⟩ := List.getElem?_zip_eq_some.1 hi
            have c0 := (caps_le hc (List.mem_of_getElem? e2)).1
            have e3 := List.eq_of_mem_replicate (List.mem_of_getElem? e1)
            unfold overB
            rw [decide_eq_false (by omega : ¬ y.1 > y.2)]
            simp]
          rfl, show mayB g src dst want [] = false by
          cases hb : mayB g src dst want [] with
          | false => rfl
          | true => exact absurd rfl (mayB_some hb)]
        rfl
end

end Go.Proofs.Ytiboikgoaihccaa.R
