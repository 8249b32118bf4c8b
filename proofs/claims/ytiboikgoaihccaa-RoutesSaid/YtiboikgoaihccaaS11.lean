/-
Graphs that may be; vertices, rising.
-/
import Derived.Test.YtiboikgoaihccaaQ11
namespace Go.Proofs.Ytiboikgoaihccaa.R
set_option linter.unusedVariables false

theorem sumTold_ok (xs : List Int) : (sumTold xs).2 = (sumUp 0 xs).isSome := by
  unfold sumTold
  cases sumUp 0 xs <;> rfl

theorem shape_tree (g : Gr) (r : Bool) (h : g.2.length ≤ 16 → r = (g.2.all (linkOk g.1) && (sumUp 0 (capsOf g)).isSome)) :
    (bif decide (g.1 < 2) then some (V.bool false) else (bif decide (g.1 > 8) then (some (.bool false)) else (bif decide ((g.2.length : Int) > 16) then (some (.bool false)) else some (.bool r)))) = some (.bool (graphMay g)) := by
  unfold graphMay shapeB
  by_cases h1 : g.1 < 2
  · rw [decide_eq_true h1, cT, decide_eq_false (by omega : ¬ (2 ≤ g.1 ∧ g.1 ≤ 8))]
    rfl
  · rw [decide_eq_false h1, cF]
    by_cases h2 : g.1 > 8
    · rw [decide_eq_true h2, cT, decide_eq_false (by omega : ¬ (2 ≤ g.1 ∧ g.1 ≤ 8))]
      rfl
    · rw [decide_eq_false h2, cF, decide_eq_true (by omega : 2 ≤ g.1 ∧ g.1 ≤ 8)]
      by_cases h3 : g.2.length ≤ 16
      · rw [decide_eq_false (by omega : ¬ ((g.2.length : Int) > 16)), cF, decide_eq_true h3, h h3, Bool.true_and, Bool.true_and]
      · rw [decide_eq_true (by omega : (g.2.length : Int) > 16), cT, decide_eq_false h3]
        rfl

noncomputable def S104 : Summ := summ [tG] Bool (fun (g : Gr) => some (graphMay g)) .bool

theorem link_tree (n : Int) (l : Lk) (x : Option V) : (bif !hasV n l.1 then some (V.bool false) else (bif !hasV n l.2.1 then (some (.bool false)) else (bif l.1 == l.2.1 then (some (.bool false)) else x))) = bif !linkOk n l then some (.bool false) else x := by
  unfold linkOk
  cases hasV n l.1 <;> cases hasV n l.2.1 <;> cases l.1 == l.2.1 <;> simp only [Bool.not_true, Bool.not_false, Bool.true_and, Bool.false_and, cT, cF]

theorem f104.l0_is (k : Nat) (g : Gr) (hl : g.2.length ≤ 16) (hk : 16 < k) :
    f104.l0 k k g.2 g.2.length 0 g.1 = some (.bool (g.2.all (linkOk g.1) && (sumUp 0 (capsOf g)).isSome)) := by
  have := loop_any0 (fun n i => f104.l0 k n g.2 g.2.length (i : Nat) g.1) g.2 (fun l => !linkOk g.1 l) (some (.bool false)) (some (.bool (sumUp 0 (capsOf g)).isSome)) (fun n i x hx => by
    have := idx_lt hx
    rw [f104.l0_eq, idx_lt' hx, idx_in hx, rd_some (t := tLk) hx, wrap_succ (by omega), cT, kT, link_tree]) (fun n => by
    rw [f104.l0_eq, end_lt, cF, chk_eq (by simp; omega), bS, chk_eq (by simp [capsOf]; omega), bS, sumTold_ok]) (n := k) (by omega)
  refine this.trans ?_
  rw [← List.not_all_eq_any_not]
  cases g.2.all (linkOk g.1)
  · rw [Bool.not_false, cT, Bool.false_and]
  · rw [Bool.not_true, cF, Bool.true_and]

theorem ok104 : SumOk Try.prog 104 S104 :=
  sum_k hmix f104.E (fn := Try.f104) (code := f104.code) (by kernel_rfl) (by kernel_rfl) (by kernel_rfl) (fun _ => ttOk) f104.sums f104.inl fun (g : Gr) x hx => by
    obtain rfl := Option.some.inj hx
    refine ⟨17, (f104.eq _ g).trans ?_⟩
    by_cases hl : g.2.length ≤ 16
    · rw [f104.l0_is 17 g hl (by omega)]
      exact shape_tree g _ fun _ => rfl
    · rw [← shape_tree g true fun h => absurd h hl, decide_eq_true (by omega : (g.2.length : Int) > 16), cT, cT]

noncomputable def S90 : Summ := S104

theorem f90.l0_is (k : Nat) (g : Gr) (hl : g.2.length ≤ 16) : ∀ (n i : Nat) (a : Int), i ≤ g.2.length → g.2.length < n + i → 0 ≤ a → a ≤ maxRate →
    f90.l0 k n a i g.1 g.2 = some (.bool ((g.2.drop i).all (linkOk g.1) && (sumUp a ((g.2.drop i).map fun l => l.2.2)).isSome))
  | 0, i, _, h, h', _, _ => by omega
  | n + 1, i, a, h, h', h0, h1 => by
    have h1' : a ≤ 4611686018427387904 := h1
    by_cases hlt : i < g.2.length
    · have hx := List.getElem?_eq_getElem hlt
      rw [f90.l0_eq, idx_lt' hx, idx_in hx, rd_some (t := tLk) hx, wrap_succ (by omega), wrap64 (n := 4611686018427387904 - a) (by omega), cT, kT, link_tree, List.drop_eq_getElem_cons hlt]
      simp only [List.all_cons, List.map_cons, sumUp]
      generalize g.2[i] = l
      cases linkOk g.1 l with
      | false => rw [Bool.not_false, cT]; rfl
      | true =>
        rw [Bool.not_true, cF, Bool.true_and]
        by_cases hd : 0 ≤ l.2.2 ∧ l.2.2 ≤ maxRate - a
        · have hd2 : l.2.2 ≤ 4611686018427387904 - a := hd.2
          rw [decide_eq_true hd, cT, decide_eq_false (by omega : ¬ l.2.2 < 0), cF, decide_eq_false (by omega : ¬ l.2.2 > 4611686018427387904 - a), cF, wrap64 (n := a + l.2.2) (by omega)]
          exact f90.l0_is k g hl n (i + 1) (a + l.2.2) (by omega) (by omega) (by omega) (show a + l.2.2 ≤ 4611686018427387904 by omega)
        · rw [decide_eq_false hd, cF, Option.isSome_none, Bool.and_false]
          by_cases hx0 : l.2.2 < 0
          · rw [decide_eq_true hx0, cT]
          · have : l.2.2 > 4611686018427387904 - a := by
              have : ¬ l.2.2 ≤ 4611686018427387904 - a := fun hh => hd ⟨by omega, hh⟩
              omega
            rw [decide_eq_false hx0, cF, decide_eq_true this, cT]
    · obtain rfl : i = g.2.length := by omega
      rw [f90.l0_eq, end_lt, cF, List.drop_length]
      rfl

theorem ok90 : SumOk Try.prog 90 S90 :=
  sum_k hmix f90.E (fn := Try.f90) (code := f90.code) (by kernel_rfl) (by kernel_rfl) (by kernel_rfl) (fun _ => ttOk) f90.sums f90.inl fun (g : Gr) x hx => by
    obtain rfl := Option.some.inj hx
    refine ⟨17, (f90.eq _ g).trans ?_⟩
    by_cases hl : g.2.length ≤ 16
    · have := f90.l0_is 17 g hl 17 0 0 (by omega) (by omega) (by omega) (by decide)
      rw [List.drop_zero] at this
      have e : f90.l0 17 17 0 0 g.1 g.2 = _ := this
      rw [e]
      exact shape_tree g _ fun _ => rfl
    · rw [← shape_tree g true fun h => absurd h hl, decide_eq_true (by omega : (g.2.length : Int) > 16), cT, cT]

noncomputable def S91 : Summ := summ [tG, tL] Bool (fun (d : Gr × List Int) => chk (decide (d.2.length < 4611686018427387904)) (some (risingB d.1.1 none d.2))) .bool

/-- The number ahead of a place. -/
def ahead (vs : List Int) (i : Nat) : Option Int := if i = 0 then none else vs[i - 1]?

theorem f91.l0_is (k : Nat) (g : Gr) (vs : List Int) (hl : vs.length < 4611686018427387904) : ∀ (n i : Nat), i ≤ vs.length → vs.length < n + i →
    f91.l0 k n vs i g.1 g.2 = some (.bool (risingB g.1 (ahead vs i) (vs.drop i)))
  | 0, i, h, h' => by omega
  | n + 1, i, h, h' => by
    by_cases hlt : i < vs.length
    · have hx := List.getElem?_eq_getElem hlt
      have ih := f91.l0_is k g vs hl n (i + 1) (by omega) (by omega)
      have ha : ahead vs (i + 1) = some vs[i] := by unfold ahead; rw [if_neg (by omega)]; exact hx
      rw [ha] at ih
      rw [f91.l0_eq, idx_lt' hx, idx_in hx, rd_some (t := tI) hx, wrap_succ (by omega), cT, kT, List.drop_eq_getElem_cons hlt, ih]
      simp only [risingB]
      cases hasV g.1 vs[i] with
      | false => rw [Bool.not_false, cT, Bool.false_and]
      | true =>
        rw [Bool.not_true, cF, Bool.true_and]
        by_cases h0 : i = 0
        · subst h0
          rw [show decide (((0 : Nat) : Int) > 0) = false by simp, cF]
          rfl
        · have hy : vs[i - 1]? = some vs[i - 1] := List.getElem?_eq_getElem (by omega)
          have ha2 : ahead vs i = some vs[i - 1] := by unfold ahead; rw [if_neg h0]; exact hy
          rw [ha2, show decide ((i : Int) > 0) = true by simp; omega, cT, kT, wrap64 (n := (i : Int) - 1) (by omega), show ((i : Int) - 1) = ((i - 1 : Nat) : Int) by omega, idx_in hy, kT, rd_some (t := tI) hy]
          simp only
          by_cases hc : vs[i] ≤ vs[i - 1]
          · rw [decide_eq_true hc, cT, decide_eq_false (by omega), Bool.false_and]
          · rw [decide_eq_false hc, cF, decide_eq_true (by omega), Bool.true_and]
    · obtain rfl : i = vs.length := by omega
      rw [f91.l0_eq, end_lt, cF, List.drop_length]
      rfl

theorem ok91 : SumOk Try.prog 91 S91 :=
  sum_k hmix f91.E (fn := Try.f91) (code := f91.code) (by kernel_rfl) (by kernel_rfl) (by kernel_rfl) (fun _ => ttOk) f91.sums f91.inl fun (d : Gr × List Int) x hx => by
    obtain ⟨hb, hx⟩ := chk_some hx
    obtain rfl := Option.some.inj hx
    have hb : d.2.length < 4611686018427387904 := by simpa using hb
    exact ⟨d.2.length + 1, (f91.eq _ d.1 d.2).trans (f91.l0_is _ d.1 d.2 hb _ 0 (by omega) (by omega))⟩

end Go.Proofs.Ytiboikgoaihccaa.R
