/-
The law RouteForms.
-/
import Derived.Test.YtiboikgoaihccaaQ96
import Derived.KernelRfl
namespace Go.Proofs.Ytiboikgoaihccaa.R
set_option linter.unusedVariables false

theorem and1023 (x : Int) : ∃ m : Nat, m < 1024 ∧ bitsI Go.BinOp.and Go.IntKind.i64 x (1023 : Int) = (m : Int) := by
  have h : (BitVec.ofInt 64 x &&& BitVec.ofInt 64 1023).toNat < 1024 := by
    rw [BitVec.toNat_and, show (BitVec.ofInt 64 1023).toNat = 1023 by decide]
    exact Nat.lt_of_le_of_lt Nat.and_le_right (by decide)
  refine ⟨(BitVec.ofInt 64 x &&& BitVec.ofInt 64 1023).toNat, h, ?_⟩
  show Go.IntKind.i64.wrap ((BitVec.ofInt 64 x &&& BitVec.ofInt 64 1023).toNat : Int) = _
  exact wrap64 (by omega)

theorem caps543 : capsMay ((3 : Int), [((0 : Int), (1 : Int), (5 : Int)), ((1 : Int), (2 : Int), (4 : Int)), ((0 : Int), (2 : Int), (3 : Int))]) [(5 : Int), (4 : Int), (3 : Int)] = true := by kernel_rfl

theorem law13_ev (d : Int × Int) :
    ∃ E c, TtOk Try.prog E.tt ∧ SumsOk Try.prog E ∧ InlOk Try.prog E ∧ evFn E c 13 Try.f13 (encL [tI, tI] d) = some (.bool true) := by
  obtain ⟨which, x⟩ := d
  refine ⟨f13.E 0, 9, ttOk, f13.sums _, f13.inl _, (f13.eq _ which x).trans ?_⟩
  obtain ⟨m, hm, he⟩ := and1023 x
  have e0 : (((0 : Nat) : Int) == 0) = true := by decide
  have r3 : refusedB ((3 : Int), [((0 : Int), (1 : Int), (5 : Int)), ((1 : Int), (2 : Int), (4 : Int)), ((0 : Int), (2 : Int), (3 : Int))]) [(5 : Int), (4 : Int), (3 : Int)] (Go.IntKind.i64.wrap ((3 : Int) + bitsI Go.BinOp.and Go.IntKind.i64 x (1023 : Int))) 2 2 = true := by
    unfold refusedB
    rw [he, wrap64 (by omega), caps543]
    simp only []
    rw [show hasV 3 (3 + (m : Int)) = false from decide_eq_false (by omega), Bool.not_false, Bool.true_or, Bool.or_true]
  have r5 : refusedB ((3 : Int), [((0 : Int), (1 : Int), (5 : Int)), ((1 : Int), (2 : Int), (4 : Int)), ((0 : Int), (2 : Int), (3 : Int))]) [(5 : Int), (4 : Int), (3 : Int)] 0 2 (Go.IntKind.i64.wrap ((0 : Int) - bitsI Go.BinOp.and Go.IntKind.i64 x (1023 : Int))) = true := by
    unfold refusedB
    rw [he, wrap64 (by omega)]
    have : ((0 - (m : Int) == 0) || !rateB (0 - (m : Int))) = true := by
      by_cases h0 : m = 0
      · subst h0; rfl
      · rw [show rateB (0 - (m : Int)) = false from decide_eq_false (by omega), Bool.not_false, Bool.or_true]
    rw [this, Bool.or_true, Bool.or_true, Bool.or_true, Bool.or_true]
  have r7 : refusedB ((3 : Int), [((0 : Int), (1 : Int), (5 : Int)), ((1 : Int), (2 : Int), (4 : Int)), ((0 : Int), (2 : Int), (3 : Int))]) [(5 : Int), (4 : Int), (3 : Int)] 0 (Go.IntKind.i64.wrap ((-1 : Int) - bitsI Go.BinOp.and Go.IntKind.i64 x (1023 : Int))) 2 = true := by
    unfold refusedB
    rw [he, wrap64 (by omega)]
    simp only []
    rw [show hasV 3 (-1 - (m : Int)) = false from decide_eq_false (by omega), Bool.not_false, Bool.true_or, Bool.or_true, Bool.or_true]
  rw [r3, r5, r7, cT, cT, cT, bS]
  have e1 : ((1600 : Int) == 1600) = true := by decide
  simp only [List.length_nil, e0, e1, cT]
  cases bitsI Go.BinOp.and Go.IntKind.i64 which (7 : Int) == (0 : Int) <;> cases bitsI Go.BinOp.and Go.IntKind.i64 which (7 : Int) == (1 : Int) <;> cases bitsI Go.BinOp.and Go.IntKind.i64 which (7 : Int) == (2 : Int) <;> cases bitsI Go.BinOp.and Go.IntKind.i64 which (7 : Int) == (3 : Int) <;>
    cases bitsI Go.BinOp.and Go.IntKind.i64 which (7 : Int) == (4 : Int) <;> cases bitsI Go.BinOp.and Go.IntKind.i64 which (7 : Int) == (5 : Int) <;> cases bitsI Go.BinOp.and Go.IntKind.i64 which (7 : Int) == (6 : Int) <;> rfl

end Go.Proofs.Ytiboikgoaihccaa.R
