/-
What is lent, with marked room behind it.
-/
import Derived.Test.YtiboikgoaihccaaRC
namespace Go.Proofs.Ytiboikgoaihccaa.R
set_option linter.unusedVariables false

section
variable (l : List Int)
theorem lend_take : List.take ((↑l.length : Int).toNat - (0 : Nat)) (List.drop (0 : Nat) (l ++ [(-7777 : Int), (-8888 : Int)])) = l := by simp
theorem lend_a (h : l.length * 8 ≤ 140737488351232) : decide ((l ++ [(-7777 : Int), (-8888 : Int)]).length * (8 : Nat) ≤ (140737488355328 : Nat)) = true := by simp; omega
theorem lend_b : decide ((↑l.length : Int) ≤ (↑(l ++ [(-7777 : Int), (-8888 : Int)]).length : Int)) = true := by simp; omega
theorem lend_w (h : l.length * 8 ≤ 140737488351232) : Go.IntKind.i64.wrap ((↑((↑l.length : Int).toNat - (0 : Nat)) : Int) + (2 : Int)) = ((l.length + 2 : Nat) : Int) := by
  rw [wrap64 (by omega)]; omega
theorem lend_w1 (h : l.length * 8 ≤ 140737488351232) : Go.IntKind.i64.wrap ((↑l.length : Int) + (1 : Int)) = ((l.length + 1 : Nat) : Int) := by
  rw [wrap64 (by omega)]; omega
theorem lend_c : decide ((0 : Int) ≤ (0 : Int) ∧ (0 : Int) ≤ ((l.length + 2 : Nat) : Int)) = true := by simp; omega
theorem lend_d : decide (((l.length + 2 : Nat) : Int) ≤ (↑((l ++ [(-7777 : Int), (-8888 : Int)]).length - (0 : Nat)) : Int)) = true := by simp
theorem lend_e : decide ((0 : Int) ≤ (↑l.length : Int) ∧ (↑l.length : Int) < (↑((((l.length + 2 : Nat) : Int)).toNat - (0 : Nat)) : Int)) = true := by simp; omega
theorem lend_f : (rd (Ty.int Go.IntKind.i64) (l ++ [(-7777 : Int), (-8888 : Int)]) (↑((0 : Nat) + (↑l.length : Int).toNat) : Int) == (-7777 : Int)) = true := by
  simp [rd, List.getD_eq_getElem?_getD]
theorem lend_g : decide ((0 : Int) ≤ ((l.length + 1 : Nat) : Int) ∧ ((l.length + 1 : Nat) : Int) < (↑((((l.length + 2 : Nat) : Int)).toNat - (0 : Nat)) : Int)) = true := by
  refine decide_eq_true ⟨by omega, by omega⟩
theorem lend_h : (rd (Ty.int Go.IntKind.i64) (l ++ [(-7777 : Int), (-8888 : Int)]) (↑((0 : Nat) + ((((l.length + 1 : Nat) : Int))).toNat) : Int) == (-8888 : Int)) = true := by
  have e : (0 : Nat) + (((l.length + 1 : Nat) : Int)).toNat = l.length + 1 := by omega
  rw [e]
  simp [rd, List.getD_eq_getElem?_getD]
end

end Go.Proofs.Ytiboikgoaihccaa.R
