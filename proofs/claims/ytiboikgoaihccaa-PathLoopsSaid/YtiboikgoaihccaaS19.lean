/-
What is lent, with marked room behind it; the law CutWorths.
-/
import Derived.Test.YtiboikgoaihccaaQ19
namespace Go.Proofs.Ytiboikgoaihccaa.R
set_option linter.unusedVariables false

section
variable (l : List Int)
theorem lend_take : List.take ((↑l.length : Int).toNat - (0 : Nat)) (List.drop (0 : Nat) (l ++ [(-7777 : Int), (-8888 : Int)])) = l := by simp
theorem lend_a (h : l.length * 8 ≤ 140737488351232) : decide ((l ++ [(-7777 : Int), (-8888 : Int)]).length * (8 : Nat) ≤ (140737488355328 : Nat)) = true := by simp; omega
theorem lend_b : decide ((↑l.length : Int) ≤ (↑(l ++ [(-7777 : Int), (-8888 : Int)]).length : Int)) = true := by simp; omega
theorem lend_w (h : l.length * 8 ≤ 140737488351232) : Go.IntKind.i64.wrap ((↑((↑l.length : Int).toNat - (0 : Nat)) : Int) + (2 : Int)) = ((l.length + 2 : Nat) : Int) := by
  rw [wrap64 (by omega)]; omega
theorem lend_w1 (h : l.length * 8 ≤ 140737488351232) : Go.IntKind.i64.wrap ((↑l.length : Int) + (1 : Int)) = ((l.length + 1 : Nat) : Int) := by
  rw [wrap64 (by omega)]; omega
theorem lend_c : decide ((0 : Int) ≤ (0 : Int) ∧ (0 : Int) ≤ ((l.length + 2 : Nat) : Int)) = true := by simp; omega
theorem lend_d : decide (((l.length + 2 : Nat) : Int) ≤ (↑((l ++ [(-7777 : Int), (-8888 : Int)]).length - (0 : Nat)) : Int)) = true := by simp
theorem lend_e : decide ((0 : Int) ≤ (↑l.length : Int) ∧ (↑l.length : Int) < (↑((((l.length + 2 : Nat) : Int)).toNat - (0 : Nat)) : Int)) = true := by simp; omega
theorem lend_f : (rd (Ty.int Go.IntKind.i64) (l ++ [(-7777 : Int), (-8888 : Int)]) (↑((0 : Nat) + (↑l.length : Int).toNat) : Int) == (-7777 : Int)) = true := by
  simp [rd, List.getD_eq_getElem?_getD]
theorem lend_g : decide ((0 : Int) ≤ ((l.length + 1 : Nat) : Int) ∧ ((l.length + 1 : Nat) : Int) < (↑((((l.length + 2 : Nat) : Int)).toNat - (0 : Nat)) : Int)) = true := by
  refine decide_eq_true ⟨by omega, by omega⟩
theorem lend_h : (rd (Ty.int Go.IntKind.i64) (l ++ [(-7777 : Int), (-8888 : Int)]) (↑((0 : Nat) + ((((l.length + 1 : Nat) : Int))).toNat) : Int) == (-8888 : Int)) = true := by
  have e : (0 : Nat) + (((l.length + 1 : Nat) : Int)).toNat = l.length + 1 := by omega
  rw [e]
  simp [rd, List.getD_eq_getElem?_getD]
end

theorem law8_ev (d : Gr × (List Int × (Int × (Int × (Int × List Int))))) (h1 : d.2.1.length * 8 ≤ reachBytes) (h2 : d.2.2.2.2.2.length * 8 ≤ reachBytes) :
    ∃ E c, TtOk Try.prog E.tt ∧ SumsOk Try.prog E ∧ InlOk Try.prog E ∧ evFn E c 8 Try.f8 (encL [tG, tL, tI, tI, tI, tL] d) = some (.bool true) := by
  obtain ⟨g, cs, src, dst, rate, vs⟩ := d
  refine ⟨f8.E 17, 9, ttOk, f8.sums _, f8.inl _, (f8.eq _ g cs src dst rate vs).trans ?_⟩
  simp only [reachBytes] at h1 h2
  have hv : vs.length < 4611686018427387904 := by omega
  have hc : cs.length < 4611686018427387904 := by omega
  rw [chk_eq (decide_eq_true (by omega)), bS, chk_eq (lend_a cs h1), chk_eq (lend_b cs), chk_eq (decide_eq_true (by omega)), bS, chk_eq (lend_a vs h2), chk_eq (lend_b vs)]
  rw [lend_take, lend_take, chk_eq (decide_eq_true hv), bS, bS, chk_eq (decide_eq_true hv), bS, bS]
  rw [beq_self_eq_true, cT, beq_self_eq_true, cT, beq_self_eq_true, cT, beq_self_eq_true, cT]
  rw [lend_w cs h1, lend_w1 cs h1, lend_w vs h2, lend_w1 vs h2]
  rw [chk_eq (lend_c cs), chk_eq (lend_d cs), chk_eq (decide_eq_true hc), bS, sameB_iff.2 rfl, cT, chk_eq (lend_e cs), lend_f, cT, chk_eq (lend_g cs), lend_h, cT]
  rw [chk_eq (lend_c vs), chk_eq (lend_d vs), chk_eq (decide_eq_true hv), bS, sameB_iff.2 rfl, cT, chk_eq (lend_e vs), lend_f, cT, chk_eq (lend_g vs), lend_h]

end Go.Proofs.Ytiboikgoaihccaa.R
