/-
The law Cuts.
-/
import Derived.Test.YtiboikgoaihccaaQ22
namespace Go.Proofs.Ytiboikgoaihccaa.R
set_option linter.unusedVariables false

theorem leaving_len (g : Gr) (vs : List Int) : (leaving g vs).1.length ≤ 16 := by
  unfold leaving
  cases hg : risingB g.1 none vs && graphMay g with
  | false => rw [cF]; simp
  | true =>
    rw [cT]
    simp only [Bool.and_eq_true] at hg
    have := leave_len vs g.2 0
    have := links_few hg.2
    simp only
    omega

/-- What follows the writing over. -/
theorem f7.end (k n : Nat) (g : Gr) (vs a : List Int) (hg : g.2.length * 24 ≤ 140737488351232) (hv : vs.length * 8 ≤ 140737488351232) :
    f7.l0 k (n + 1) (a.length : Int) vs ((↑vs.length : Int).toNat - (0 : Nat)) a g.1 g.2 g.1 (vs ++ [(-7777 : Int), (-8888 : Int)]) g.2 = some (.bool true) := by
  rw [f7.l0_eq, end_lt, cF, chk_eq (decide_eq_true (by omega)), bS, show sameG (g.1, g.2) (g.1, g.2) = true from sameG_self g, cT]
  rw [lend_take, lend_w vs hv, lend_w1 vs hv]
  rw [chk_eq (lend_c vs), chk_eq (lend_d vs), chk_eq (decide_eq_true (by omega)), bS, sameB_iff.2 rfl, cT, chk_eq (lend_e vs), lend_f, cT, chk_eq (lend_g vs), lend_h]

theorem f7.over (k : Nat) (g : Gr) (vs : List Int) (hg : g.2.length * 24 ≤ 140737488351232) (hv : vs.length * 8 ≤ 140737488351232) (m : Nat) (hm : m ≤ 16) : ∀ (n i : Nat) (a : List Int), a.length = m → i ≤ m → m < n + i →
    f7.l0 k n (i : Int) vs ((↑vs.length : Int).toNat - (0 : Nat)) a g.1 g.2 g.1 (vs ++ [(-7777 : Int), (-8888 : Int)]) g.2 = some (.bool true)
  | 0, i, a, _, h, h' => by omega
  | n + 1, i, a, ha, h, h' => by
    by_cases hlt : i < m
    · have hb : decide ((0 : Int) ≤ (i : Int) ∧ (i : Int) < (↑a.length : Int)) = true := decide_eq_true (by omega)
      rw [f7.l0_eq, show decide ((i : Int) < (a.length : Int)) = true from decide_eq_true (by omega), cT, chk_eq hb, chk_eq hb, wrap_succ (by omega)]
      exact f7.over k g vs hg hv m hm n (i + 1) _ (by rw [List.length_set]; exact ha) (by omega) (by omega)
    · obtain rfl : i = m := by omega
      rw [← ha]
      exact f7.end k n g vs a hg hv

theorem law7_ev (d : Gr × (Int × (Int × List Int))) (h1 : d.1.2.length * 24 ≤ reachBytes) (h2 : d.2.2.2.length * 8 ≤ reachBytes) :
    ∃ E c, TtOk Try.prog E.tt ∧ SumsOk Try.prog E ∧ InlOk Try.prog E ∧ evFn E c 7 Try.f7 (encL [tG, tI, tI, tL] d) = some (.bool true) := by
  obtain ⟨g, src, dst, vs⟩ := d
  refine ⟨f7.E 17, 9, ttOk, f7.sums _, f7.inl _, (f7.eq _ g src dst vs).trans ?_⟩
  simp only [reachBytes] at h1 h2
  have hv : vs.length < 4611686018427387904 := by omega
  have hg : g.2.length < 4611686018427387904 := by omega
  rw [chk_eq (decide_eq_true (by omega)), bS, chk_eq (decide_eq_true (by omega)), bS, chk_eq (lend_a vs h2), chk_eq (lend_b vs), lend_take, chk_eq (decide_eq_true hv), bS, bS]
  have hl := leaving_len g vs
  rw [chk_eq (decide_eq_true (by omega)), bS, sameB_iff.2 rfl, Bool.not_true, cF, bne_self_eq_false, cF, chk_eq (decide_eq_true hv), bS, bS]
  rw [beq_self_eq_true, Bool.not_true, cF]
  exact f7.over 17 g vs h1 h2 _ hl 17 0 _ rfl (by omega) (by omega)

end Go.Proofs.Ytiboikgoaihccaa.R
