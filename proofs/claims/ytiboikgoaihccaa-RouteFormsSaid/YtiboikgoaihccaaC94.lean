/-
route.Route: what it refuses; two runs of it.
-/
import Derived.Test.YtiboikgoaihccaaC93
import Derived.Test.YtiboikgoaihccaaZ1
import Derived.Test.YtiboikgoaihccaaG2
namespace Go.Proofs.Ytiboikgoaihccaa.R
set_option maxRecDepth 100000
set_option linter.unusedVariables false

noncomputable def f57.E (k : Nat) : Env := mkEnv tt [] [] [] [] k
noncomputable def f57.code : Go.Code := (Go.Func.body Try.f57).getD .skip
theorem f57.eq (k : Nat) : evFn (f57.E k) 9 57 Try.f57 [] =
  some (.agg [(.int .i64 ((3 : Int))), (.own (.pair (.int .i64) (.pair (.int .i64) (.int .i64))) ([((0 : Int), (1 : Int), (5 : Int)), ((1 : Int), (2 : Int), (4 : Int)), ((0 : Int), (2 : Int), (3 : Int))]))]) := by kernel_rfl
theorem f57.inl (k : Nat) : InlOk Try.prog (f57.E k) := inl_nil
theorem f57.sums (k : Nat) : SumsOk Try.prog (f57.E k) := sums_nil
noncomputable def f51r.E (k : Nat) : Env := mkEnv tt [(92, S92), (95, S95), (98, S98), (99, S99v), (100, S100), (101, S101)] [] [] [] k
noncomputable def f51r.code : Go.Code := (Go.Func.body Try.f51).getD .skip
theorem f51r.eq (k : Nat) (x0 : Int × List (Int × Int × Int)) (x1 : List Int) (x2 : Int) (x3 : Int) (x4 : Int) : evFn (f51r.E k) 9 51 Try.f51 [(.agg [(.int .i64 (x0.fst)), (.ro (.pair (.int .i64) (.pair (.int .i64) (.int .i64))) (x0.snd))]), (.ro (.int .i64) (x1)), (.int .i64 (x2)), (.int .i64 (x3)), (.int .i64 (x4))] =
  bif !capsMay x0 x1 then (some (.tup [(.own (.pair (.int .i64) (.list (.int .i64))) ([])), (.own (.int .i64) ([])), (.int .i64 ((1600 : Int)))])) else (bif !hasV x0.fst x2 then (some (.tup [(.own (.pair (.int .i64) (.list (.int .i64))) ([])), (.own (.int .i64) ([])), (.int .i64 ((1600 : Int)))])) else (bif !hasV x0.fst x3 then (some (.tup [(.own (.pair (.int .i64) (.list (.int .i64))) ([])), (.own (.int .i64) ([])), (.int .i64 ((1600 : Int)))])) else (bif x2 == x3 then (some (.tup [(.own (.pair (.int .i64) (.list (.int .i64))) ([])), (.own (.int .i64) ([])), (.int .i64 ((1600 : Int)))])) else (bif x4 == (0 : Int) then (some (.tup [(.own (.pair (.int .i64) (.list (.int .i64))) ([])), (.own (.int .i64) ([])), (.int .i64 ((1600 : Int)))])) else (chk (!rateB x4) (some (.tup [(.own (.pair (.int .i64) (.list (.int .i64))) ([])), (.own (.int .i64) ([])), (.int .i64 ((1600 : Int)))]))))))) := by kernel_rfl
theorem f51r.inl (k : Nat) : InlOk Try.prog (f51r.E k) := inl_nil
theorem f51r.sums (k : Nat) : SumsOk Try.prog (f51r.E k) := (sums_cons ok92 (sums_cons ok95 (sums_cons ok98 (sums_cons ok99v (sums_cons ok100 (sums_cons ok101 sums_nil))))))
noncomputable def f51.E (k : Nat) : Env := mkEnv tt [(92, S92), (95, S95), (98, S98), (99, S99), (100, S100), (101, S101)] [] [] [] k
noncomputable def f51.code : Go.Code := (Go.Func.body Try.f51).getD .skip
theorem f51.inl (k : Nat) : InlOk Try.prog (f51.E k) := inl_nil
theorem f51.sums (k : Nat) : SumsOk Try.prog (f51.E k) := (sums_cons ok92 (sums_cons ok95 (sums_cons ok98 (sums_cons ok99 (sums_cons ok100 (sums_cons ok101 sums_nil))))))
theorem f51.at0 : evFn (f51.E 40) 9 51 Try.f51 (encL [tG, tL, tI, tI, tI] (((3, [(0, 1, 5), (1, 2, 4), (0, 2, 3)]), [5, 4, 3], 0, 2, 7) : Gr × (List Int × (Int × (Int × Int))))) = some (.tup [.own tP [(4, [0, 1]), (3, [2])], .own tI [], .int .i64 0]) := by kernel_rfl
theorem f51.at1 : evFn (f51.E 40) 9 51 Try.f51 (encL [tG, tL, tI, tI, tI] (((3, [(0, 1, 5), (1, 2, 4), (0, 2, 3)]), [5, 4, 3], 0, 2, 8) : Gr × (List Int × (Int × (Int × Int))))) = some (.tup [.own tP [], .own tI [0, 1], .int .i64 0]) := by kernel_rfl

/-- What route.Route refuses. -/
def refusedB (g : Gr) (cs : List Int) (src dst want : Int) : Bool := !capsMay g cs || (!hasV g.1 src || (!hasV g.1 dst || (src == dst || (want == 0 || !rateB want))))

/-- What is known of route.Route: what it refuses, and two runs. -/
def routeP (d : Gr × (List Int × (Int × (Int × Int)))) : Option (List Pt × (List Int × Int)) :=
  bif refusedB d.1 d.2.1 d.2.2.1 d.2.2.2.1 d.2.2.2.2 then some ([], [], 1600) else
  bif decide (d = ((3, [(0, 1, 5), (1, 2, 4), (0, 2, 3)]), [5, 4, 3], 0, 2, 7)) then some ([(4, [0, 1]), (3, [2])], [], 0) else
  bif decide (d = ((3, [(0, 1, 5), (1, 2, 4), (0, 2, 3)]), [5, 4, 3], 0, 2, 8)) then some ([], [0, 1], 0) else none

@[reducible] def resR (x : List Pt × (List Int × Int)) : V := .tup [.own tP x.1, .own tI x.2.1, .int .i64 x.2.2]
noncomputable def S51 : Summ := summ [tG, tL, tI, tI, tI] (List Pt × (List Int × Int)) routeP resR

theorem f51r.is (d : Gr × (List Int × (Int × (Int × Int)))) (h : refusedB d.1 d.2.1 d.2.2.1 d.2.2.2.1 d.2.2.2.2 = true) : evFn (f51r.E 0) 9 51 Try.f51 (encL [tG, tL, tI, tI, tI] d) = some (resR ([], [], 1600)) := by
  obtain ⟨g, cs, src, dst, want⟩ := d
  refine (f51r.eq _ g cs src dst want).trans ?_
  unfold refusedB at h
  simp only [] at h
  cases h1 : capsMay g cs with
  | false => rw [Bool.not_false, cT]
  | true =>
    rw [h1, Bool.not_true, Bool.false_or] at h
    rw [Bool.not_true, cF]
    cases h2 : hasV g.1 src with
    | false => rw [Bool.not_false, cT]
    | true =>
      rw [h2, Bool.not_true, Bool.false_or] at h
      rw [Bool.not_true, cF]
      cases h3 : hasV g.1 dst with
      | false => rw [Bool.not_false, cT]
      | true =>
        rw [h3, Bool.not_true, Bool.false_or] at h
        rw [Bool.not_true, cF]
        cases h4 : src == dst with
        | true => rw [cT]
        | false =>
          rw [h4, Bool.false_or] at h
          rw [cF]
          cases h5 : want == 0 with
          | true => rw [cT]
          | false =>
            rw [h5, Bool.false_or] at h
            rw [cF, chk_eq h]

theorem ok51 : SumOk Try.prog 51 S51 :=
  sum_of hmix (fn := Try.f51) (code := f51.code) (by kernel_rfl) (by kernel_rfl) (by kernel_rfl) fun (d : Gr × (List Int × (Int × (Int × Int)))) x hx => by
    have hx : routeP d = some x := hx
    unfold routeP at hx
    cases h : refusedB d.1 d.2.1 d.2.2.1 d.2.2.2.1 d.2.2.2.2 with
    | true =>
      rw [h, cT] at hx
      obtain rfl := Option.some.inj hx
      exact ⟨f51r.E 0, 9, ttOk, f51r.sums _, f51r.inl _, f51r.is d h⟩
    | false =>
      rw [h, cF] at hx
      by_cases h1 : d = ((3, [(0, 1, 5), (1, 2, 4), (0, 2, 3)]), [5, 4, 3], 0, 2, 7)
      · rw [decide_eq_true h1, cT] at hx
        obtain rfl := Option.some.inj hx
        subst h1
        exact ⟨f51.E 40, 9, ttOk, f51.sums _, f51.inl _, f51.at0⟩
      · rw [decide_eq_false h1, cF] at hx
        by_cases h2 : d = ((3, [(0, 1, 5), (1, 2, 4), (0, 2, 3)]), [5, 4, 3], 0, 2, 8)
        · rw [decide_eq_true h2, cT] at hx
          obtain rfl := Option.some.inj hx
          subst h2
          exact ⟨f51.E 40, 9, ttOk, f51.sums _, f51.inl _, f51.at1⟩
        · rw [decide_eq_false h2, cF] at hx
          cases hx

noncomputable def S57 : Summ := S110
theorem ok57 : SumOk Try.prog 57 S57 :=
  sum_k hmix f57.E (fn := Try.f57) (code := f57.code) (by kernel_rfl) (by kernel_rfl) (by kernel_rfl) (fun _ => ttOk) f57.sums f57.inl fun d x hx => by
    obtain rfl := Option.some.inj hx
    exact ⟨0, f57.eq 0⟩

end Go.Proofs.Ytiboikgoaihccaa.R
