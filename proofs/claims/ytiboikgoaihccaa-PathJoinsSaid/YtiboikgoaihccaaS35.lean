/-
The law PathJoins.
-/
import Derived.Test.YtiboikgoaihccaaQ31
namespace Go.Proofs.Ytiboikgoaihccaa.R
set_option linter.unusedVariables false

theorem hasV_end {g : Gr} (hg : graphMay g = true) : ∀ (ls : List Int) (v : Int), hasV g.1 v = true → ls.all (lkIn g.2) = true → hasV g.1 (endV g.2 v ls) = true
  | [], v, hv, _ => hv
  | l :: ls, v, hv, hall => by
    simp only [List.all_cons, Bool.and_eq_true] at hall
    have hl := of_decide_eq_true hall.1
    simp only [endV]
    refine hasV_end hg ls _ ?_ hall.2
    simp only [graphMay, shapeB, Bool.and_eq_true] at hg
    have hlt : l.toNat < g.2.length := by omega
    have hm : lk g.2 l ∈ g.2 := by
      unfold lk rd
      rw [List.getD_eq_getElem?_getD, List.getElem?_eq_getElem hlt]
      exact List.getElem_mem hlt
    have := List.all_eq_true.1 hg.1.2.2 _ hm
    simp only [linkOk, Bool.and_eq_true] at this
    exact this.2.1

theorem take_tail (v : Int) (l : List Int) : List.take ((↑(v :: l).length : Int).toNat - (1 : Nat)) (List.drop (1 : Nat) (v :: l)) = l := by
  simp

theorem law17_ev (d : Gr × (Int × (List Int × List Int))) :
    ∃ E c, TtOk Try.prog E.tt ∧ SumsOk Try.prog E ∧ InlOk Try.prog E ∧ evFn E c 17 Try.f17 (encL [tG, tI, tL, tL] d) = some (.bool true) := by
  obtain ⟨g, src, a, b⟩ := d
  refine ⟨f17.E 0, 9, ttOk, f17.sums _, f17.inl _, (f17.eq _ g src a b).trans ?_⟩
  cases hw : (walkOf g src a).2 != 0 with
  | true => rw [cT]
  | false =>
    have hw0 : (walkOf g src a).2 = 0 := by simpa using hw
    obtain ⟨h1, h2⟩ := walkOf_chain' hw0
    obtain ⟨f1, f2, f3, f4⟩ := walkForm_all h1
    rw [cF]
    by_cases ha : a.length ≤ 30
    · rw [show decide ((↑a.length : Int) > (30 : Int)) = false from decide_eq_false (by omega), cF]
      by_cases hb : b.length ≤ 30
      · rw [show decide ((↑b.length : Int) > (30 : Int)) = false from decide_eq_false (by omega), cF]
        have l1 : (src :: tos g.2 a).length = a.length + 1 := by rw [List.length_cons, tos_len]
        have w1 : Go.IntKind.i64.wrap (((src :: tos g.2 a).length : Int) - 1) = (a.length : Int) := by rw [l1, wrap64 (by omega)]; omega
        have hv := hasV_end f1 a src f2 f4
        have form : walkForm g src (a ++ b) = walkForm g (endV g.2 src a) b := by
          unfold walkForm
          rw [f1, f2, hv, List.all_append, f4, List.length_append, show decide (a.length + b.length ≤ 64) = true from decide_eq_true (by omega), show decide (b.length ≤ 64) = true from decide_eq_true (by omega)]
          rfl
        rw [walkOf_chain h1 h2]
        simp only []
        rw [w1, wrap_succ (by omega), l1, bne_self_eq_false, cF, chk_eq (decide_eq_true ⟨by omega, by omega⟩), rd_nat (t := tI) (end_last g.2 a src)]
        have hba : decide (a.length * 8 ≤ 140737488355328) = true := decide_eq_true (by omega)
        have hbab : decide ((a ++ b).length * 8 ≤ 140737488355328) = true := by rw [List.length_append]; exact decide_eq_true (by omega)
        cases hf : walkForm g (endV g.2 src a) b with
        | false =>
          rw [walkOf_form hf]
          simp only [chk_eq hba, bS, chk_eq hbab, walkOf_form (form.trans hf), show ((600 : Int) != 0) = true from by decide, cT, beq_self_eq_true, both_self]
        | true =>
          have hab : chainB g.2 src (a ++ b) = chainB g.2 (endV g.2 src a) b := by rw [chain_append, h2, Bool.true_and]
          cases hc : chainB g.2 (endV g.2 src a) b with
          | false =>
            have e1 : walkOf g (endV g.2 src a) b = ([], 601) := by
              unfold walkOf
              rw [hf, cT, walkL_eq, hc, cF]
            have e2 : walkOf g src (a ++ b) = ([], 601) := by
              unfold walkOf
              rw [form, hf, cT, walkL_eq, hab, hc, cF]
            rw [e1]
            simp only [chk_eq hba, bS, chk_eq hbab, e2, show ((601 : Int) != 0) = true from by decide, cT, beq_self_eq_true, both_self]
          | true =>
            rw [walkOf_chain hf hc]
            have e2 := walkOf_chain (form.trans hf) (hab.trans hc)
            have l2 : (endV g.2 src a :: tos g.2 b).length = b.length + 1 := by rw [List.length_cons, tos_len]
            have l3 : (src :: tos g.2 (a ++ b)).length = a.length + b.length + 1 := by rw [List.length_cons, tos_len, List.length_append]
            have w2 : Go.IntKind.i64.wrap ((b.length : Int) + 1) = ((b.length + 1 : Nat) : Int) := wrap_succ (by omega)
            have q1 : (((endV g.2 src a :: tos g.2 b).length : Int) == ((b.length + 1 : Nat) : Int)) = true := by rw [l2, beq_self_eq_true]
            have q2 : decide ((a.length + 1) * 8 ≤ 140737488355328) = true := decide_eq_true (by omega)
            have q3 : decide ((0 : Int) ≤ 1 ∧ (1 : Int) ≤ ((endV g.2 src a :: tos g.2 b).length : Int)) = true := by rw [l2]; exact decide_eq_true ⟨by omega, by omega⟩
            have q4 : decide (((endV g.2 src a :: tos g.2 b).length : Int) ≤ ((endV g.2 src a :: tos g.2 b).length : Int)) = true := decide_eq_true (Int.le_refl _)
            have q5 : decide ((src :: tos g.2 a ++ tos g.2 b).length * 8 ≤ 140737488355328) = true := by
              rw [List.length_append, l1, tos_len]
              exact decide_eq_true (by omega)
            have q6 : decide ((src :: tos g.2 (a ++ b)).length < 4611686018427387904) = true := by rw [l3]; exact decide_eq_true (by omega)
            have q7 : sameB (src :: tos g.2 (a ++ b)) (src :: tos g.2 a ++ tos g.2 b) = true := sameB_iff.2 (by rw [tos_append]; rfl)
            have z1 : ((0 : Int) != 0) = false := by decide
            have z2 : ((0 : Int) == 0) = true := by decide
            simp only [chk_eq hba, bS, chk_eq hbab, e2, z1, z2, cT, cF, w2, q1, chk_eq q2, chk_eq q3, chk_eq q4, take_tail, chk_eq q5, chk_eq q6, q7, both_self]
      · rw [show decide ((↑b.length : Int) > (30 : Int)) = true from decide_eq_true (by omega), cT]
    · rw [show decide ((↑a.length : Int) > (30 : Int)) = true from decide_eq_true (by omega), cT]

end Go.Proofs.Ytiboikgoaihccaa.R
