/-
Paths with rates in plain Lean.
-/
import Derived.Test.YtiboikgoaihccaaS27
namespace Go.Proofs.Ytiboikgoaihccaa.R
set_option linter.unusedVariables false

abbrev Pt := Int × List Int
@[reducible] def tP : Ty := .pair (.int .i64) (.list (.int .i64))

def ratesOf (ps : List Pt) : List Int := ps.map fun p => p.1

def ptOk (gl : List Lk) (p : Pt) : Bool := rateB p.1 && (decide (p.2.length ≤ 64) && p.2.all (lkIn gl))
def bForm (g : Gr) (ps : List Pt) : Bool := graphMay g && (decide (ps.length ≤ 16) && ps.all (ptOk g.2))

/-- What goes over a link, with more. -/
def addK (out : List Int) (k r : Int) : Option (List Int) := bif decide (r > maxRate - rd tI out k) then none else some (out.set k.toNat (rd tI out k + r))
def addLs (r : Int) : List Int → List Int → Option (List Int)
  | [], out => some out
  | k :: ls, out => (addK out k r).bind (addLs r ls)
def addPs : List Pt → List Int → Option (List Int)
  | [], out => some out
  | p :: ps, out => (addLs p.1 p.2 out).bind (addPs ps)

def loadsOf (g : Gr) (ps : List Pt) : List Int × Int :=
  bif bForm g ps then (match addPs ps (List.replicate g.2.length 0) with
    | some out => (out, 0)
    | none => ([], 701)) else ([], 700)

def mayB (g : Gr) (src dst want : Int) (ps : List Pt) : Bool :=
  graphMay g && (decide (0 < want) && (decide (ps.length ≤ 16) && (ps.all (fun p => decide (0 < p.1) && pathB g src dst p.2) && (sumUp 0 (ratesOf ps) == some want))))

def refM (g : Gr) (src dst want : Int) : Int → List Pt → Bool
  | all, [] => all == want
  | all, p :: ps => decide (1 ≤ p.1 ∧ p.1 ≤ want - all) && (pathB g src dst p.2 && refM g src dst want (all + p.1) ps)

def refB (g : Gr) (src dst want : Int) (ps : List Pt) : Bool :=
  graphMay g && (decide (1 ≤ want ∧ want ≤ maxRate) && (decide (1 ≤ ps.length ∧ ps.length ≤ 16) && refM g src dst want 0 ps))

theorem some_beq (a b : Int) : ((some a == some b) : Bool) = (a == b) := rfl

theorem refM_eq (g : Gr) (src dst want : Int) (hw : want ≤ maxRate) : ∀ (ps : List Pt) (all : Int), 0 ≤ all → all ≤ want →
    refM g src dst want all ps = (ps.all (fun p => decide (0 < p.1) && pathB g src dst p.2) && (sumUp all (ratesOf ps) == some want))
  | [], all, h1, h2 => rfl
  | p :: ps, all, h1, h2 => by
    simp only [refM, List.all_cons, ratesOf, List.map_cons, sumUp]
    by_cases h : 1 ≤ p.1 ∧ p.1 ≤ want - all
    · rw [decide_eq_true h, Bool.true_and, show decide (0 < p.1) = true from decide_eq_true (by omega), show decide (0 ≤ p.1 ∧ p.1 ≤ maxRate - all) = true from decide_eq_true (by omega), cT, Bool.true_and,
        refM_eq g src dst want hw ps (all + p.1) (by omega) (by omega), Bool.and_assoc]
      rfl
    · rw [decide_eq_false h, Bool.false_and]
      by_cases h3 : 0 < p.1
      · by_cases h4 : 0 ≤ p.1 ∧ p.1 ≤ maxRate - all
        · rw [decide_eq_true h4, cT]
          cases hs : sumUp (all + p.1) (ps.map fun p => p.1) with
          | none => rw [show ((none : Option Int) == some want) = false from rfl, Bool.and_false]
          | some s =>
            have := sumUp_lo _ _ _ hs (by omega) (by omega)
            rw [some_beq, show (s == want) = false from beq_eq_false_iff_ne.2 (by omega), Bool.and_false]
        · rw [decide_eq_false h4, cF, show ((none : Option Int) == some want) = false from rfl, Bool.and_false]
      · rw [show decide (0 < p.1) = false from decide_eq_false h3, Bool.false_and, Bool.false_and, Bool.false_and]

theorem may_ref (g : Gr) (src dst want : Int) (ps : List Pt) : refB g src dst want ps = mayB g src dst want ps := by
  unfold refB mayB
  cases graphMay g with
  | false => rfl
  | true =>
    rw [Bool.true_and, Bool.true_and]
    by_cases h1 : 0 < want
    · by_cases h2 : want ≤ maxRate
      · rw [show decide (1 ≤ want ∧ want ≤ maxRate) = true from decide_eq_true (by omega), show decide (0 < want) = true from decide_eq_true h1, Bool.true_and, Bool.true_and, refM_eq g src dst want h2 ps 0 (by omega) (by omega)]
        by_cases h3 : ps.length ≤ 16
        · by_cases h4 : 1 ≤ ps.length
          · rw [show decide (1 ≤ ps.length ∧ ps.length ≤ 16) = true from decide_eq_true ⟨h4, h3⟩, show decide (ps.length ≤ 16) = true from decide_eq_true h3]
          · have h5 : ps = [] := List.length_eq_zero_iff.1 (by omega)
            subst h5
            simp only [ratesOf, List.map_nil, sumUp, some_beq]
            rw [show ((0 : Int) == want) = false from beq_eq_false_iff_ne.2 (by omega)]
            simp
        · rw [show decide (1 ≤ ps.length ∧ ps.length ≤ 16) = false from decide_eq_false (by omega), show decide (ps.length ≤ 16) = false from decide_eq_false h3, Bool.false_and]
      · rw [show decide (1 ≤ want ∧ want ≤ maxRate) = false from decide_eq_false (by omega), Bool.false_and]
        cases hs : sumUp 0 (ratesOf ps) with
        | none => rw [show ((none : Option Int) == some want) = false from rfl]; simp
        | some s =>
          have := sumUp_lo _ _ _ hs (by omega) (by decide)
          rw [some_beq, show (s == want) = false from beq_eq_false_iff_ne.2 (by omega)]
          simp
    · rw [show decide (1 ≤ want ∧ want ≤ maxRate) = false from decide_eq_false (by omega), show decide (0 < want) = false from decide_eq_false h1, Bool.false_and, Bool.false_and]

/-! ### What goes over the links -/
theorem addK_len {out o : List Int} {k r : Int} (h : addK out k r = some o) : o.length = out.length := by
  unfold addK at h
  cases hc : decide (r > maxRate - rd tI out k) with
  | true => rw [hc, cT] at h; cases h
  | false =>
    rw [hc, cF] at h
    obtain rfl := Option.some.inj h
    rw [List.length_set]

theorem addLs_len (r : Int) : ∀ (ls : List Int) {out o : List Int}, addLs r ls out = some o → o.length = out.length
  | [], out, o, h => by
    obtain rfl := Option.some.inj h
    rfl
  | k :: ls, out, o, h => by
    simp only [addLs] at h
    cases hc : addK out k r with
    | none => rw [hc] at h; cases h
    | some o1 =>
      rw [hc, bS] at h
      rw [addLs_len r ls h, addK_len hc]

theorem addPs_len : ∀ (ps : List Pt) {out o : List Int}, addPs ps out = some o → o.length = out.length
  | [], out, o, h => by
    obtain rfl := Option.some.inj h
    rfl
  | p :: ps, out, o, h => by
    simp only [addPs] at h
    cases hc : addLs p.1 p.2 out with
    | none => rw [hc] at h; cases h
    | some o1 =>
      rw [hc, bS] at h
      rw [addPs_len ps h, addLs_len _ _ hc]

theorem addPs_append : ∀ (a b : List Pt) (out : List Int), addPs (a ++ b) out = (addPs a out).bind (addPs b)
  | [], b, out => rfl
  | p :: a, b, out => by
    simp only [List.cons_append, addPs]
    cases addLs p.1 p.2 out with
    | none => rfl
    | some o =>
      rw [bS, bS]
      exact addPs_append a b o

def plusL (a b : List Int) : List Int := List.zipWith (· + ·) a b

theorem plus_zero (o : List Int) : plusL o (List.replicate o.length 0) = o := by
  induction o with
  | nil => rfl
  | cons x o ih =>
    show (x + 0) :: plusL o (List.replicate o.length 0) = _
    rw [ih, Int.add_zero]

theorem plus_get {o d : List Int} {i : Nat} {x y : Int} (hx : o[i]? = some x) (hy : d[i]? = some y) : (plusL o d)[i]? = some (x + y) := by
  unfold plusL
  rw [List.getElem?_zipWith, hx, hy]

theorem rd_in {l : List Int} {k : Int} (h : 0 ≤ k ∧ k < (l.length : Int)) : l[k.toNat]? = some (rd tI l k) := by
  have : k.toNat < l.length := by omega
  unfold rd
  rw [List.getD_eq_getElem?_getD, List.getElem?_eq_getElem this]
  rfl

theorem rd_of {l : List Int} {k x : Int} (h : l[k.toNat]? = some x) : rd tI l k = x := by
  unfold rd
  rw [List.getD_eq_getElem?_getD, h]
  rfl

theorem plus_set {o d : List Int} {j : Nat} {x z : Int} (hx : o[j]? = some x) : (plusL o d).set j (x + z) = plusL o (d.set j z) := by
  unfold plusL
  apply List.ext_getElem?
  intro i
  rw [List.getElem?_set, List.getElem?_zipWith, List.getElem?_zipWith, List.getElem?_set, List.length_zipWith]
  by_cases hij : j = i
  · subst hij
    have hlt := (List.getElem?_eq_some_iff.1 hx).1
    rw [if_pos rfl, if_pos rfl, hx]
    by_cases hd : j < d.length
    · rw [if_pos (by omega), if_pos hd]
    · rw [if_neg (by omega), if_neg hd]
  · rw [if_neg hij, if_neg hij]

theorem addK_shift {o d o' : List Int} {k r : Int} (hl : o.length = d.length) (hk : 0 ≤ k ∧ k < (d.length : Int)) (ho : ∀ x ∈ o, 0 ≤ x) (h : addK (plusL o d) k r = some o') :
    ∃ d', addK d k r = some d' ∧ o' = plusL o d' := by
  have hx := rd_in (l := o) (k := k) (by omega)
  have hy := rd_in (l := d) hk
  have hxy := rd_of (plus_get hx hy)
  have h0 := ho _ (List.mem_of_getElem? hx)
  unfold addK at h ⊢
  rw [hxy] at h
  cases hc : decide (r > maxRate - (rd tI o k + rd tI d k)) with
  | true => rw [hc, cT] at h; cases h
  | false =>
    rw [hc, cF] at h
    obtain rfl := Option.some.inj h
    have hc := of_decide_eq_false hc
    rw [show decide (r > maxRate - rd tI d k) = false from decide_eq_false (by omega), cF]
    refine ⟨_, rfl, ?_⟩
    rw [Int.add_assoc]
    exact plus_set hx

theorem addLs_shift (r : Int) : ∀ (ls : List Int) {o d o' : List Int}, o.length = d.length → (∀ k ∈ ls, 0 ≤ k ∧ k < (d.length : Int)) → (∀ x ∈ o, 0 ≤ x) → addLs r ls (plusL o d) = some o' → ∃ d', addLs r ls d = some d' ∧ o' = plusL o d'
  | [], o, d, o', hl, hk, ho, h => ⟨d, rfl, (Option.some.inj h).symm⟩
  | k :: ls, o, d, o', hl, hk, ho, h => by
    simp only [addLs] at h
    cases hc : addK (plusL o d) k r with
    | none => rw [hc] at h; cases h
    | some o1 =>
      rw [hc, bS] at h
      obtain ⟨d1, h1, rfl⟩ := addK_shift hl (hk k (by simp)) ho hc
      have hl1 := addK_len h1
      obtain ⟨d', h2, h3⟩ := addLs_shift r ls (by omega) (fun j hj => by rw [hl1]; exact hk j (by simp [hj])) ho h
      refine ⟨d', ?_, h3⟩
      simp only [addLs]
      rw [h1, bS, h2]

theorem ptOk_in {gl : List Lk} {p : Pt} (h : ptOk gl p = true) : rateB p.1 = true ∧ p.2.length ≤ 64 ∧ p.2.all (lkIn gl) = true := by
  simp only [ptOk, Bool.and_eq_true, decide_eq_true_eq] at h
  exact h

theorem addPs_shift (gl : List Lk) : ∀ (ps : List Pt) {o d o' : List Int}, o.length = d.length → d.length = gl.length → ps.all (ptOk gl) = true → (∀ x ∈ o, 0 ≤ x) → addPs ps (plusL o d) = some o' → ∃ d', addPs ps d = some d' ∧ o' = plusL o d'
  | [], o, d, o', hl, hg, hp, ho, h => ⟨d, rfl, (Option.some.inj h).symm⟩
  | p :: ps, o, d, o', hl, hg, hp, ho, h => by
    simp only [List.all_cons, Bool.and_eq_true] at hp
    simp only [addPs] at h
    cases hc : addLs p.1 p.2 (plusL o d) with
    | none => rw [hc] at h; cases h
    | some o1 =>
      rw [hc, bS] at h
      obtain ⟨d1, h1, rfl⟩ := addLs_shift p.1 p.2 hl (fun k hk => by
        have := of_decide_eq_true (List.all_eq_true.1 (ptOk_in hp.1).2.2 k hk)
        omega) ho hc
      have hl1 := addLs_len _ _ h1
      obtain ⟨d', h2, h3⟩ := addPs_shift gl ps (by omega) (by omega) hp.2 ho h
      refine ⟨d', ?_, h3⟩
      simp only [addPs]
      rw [h1, bS, h2]

theorem addK_in {o o' : List Int} {k r : Int} (hr : 0 ≤ r) (ho : ∀ x ∈ o, 0 ≤ x ∧ x ≤ maxRate) (hk : 0 ≤ k ∧ k < (o.length : Int)) (h : addK o k r = some o') : ∀ x ∈ o', 0 ≤ x ∧ x ≤ maxRate := by
  have hx := ho _ (List.mem_of_getElem? (rd_in hk))
  unfold addK at h
  cases hc : decide (r > maxRate - rd tI o k) with
  | true => rw [hc, cT] at h; cases h
  | false =>
    rw [hc, cF] at h
    obtain rfl := Option.some.inj h
    have hc := of_decide_eq_false hc
    intro x hxm
    rcases List.mem_or_eq_of_mem_set hxm with h1 | h1
    · exact ho x h1
    · subst h1; omega

theorem addLs_in (r : Int) (hr : 0 ≤ r) : ∀ (ls : List Int) {o o' : List Int}, (∀ x ∈ o, 0 ≤ x ∧ x ≤ maxRate) → (∀ k ∈ ls, 0 ≤ k ∧ k < (o.length : Int)) → addLs r ls o = some o' → ∀ x ∈ o', 0 ≤ x ∧ x ≤ maxRate
  | [], o, o', ho, hk, h => by
    obtain rfl := Option.some.inj h
    exact ho
  | k :: ls, o, o', ho, hk, h => by
    simp only [addLs] at h
    cases hc : addK o k r with
    | none => rw [hc] at h; cases h
    | some o1 =>
      rw [hc, bS] at h
      have hl1 := addK_len hc
      exact addLs_in r hr ls (addK_in hr ho (hk k (by simp)) hc) (fun j hj => by rw [hl1]; exact hk j (by simp [hj])) h

theorem addPs_in (gl : List Lk) : ∀ (ps : List Pt) {o o' : List Int}, ps.all (ptOk gl) = true → o.length = gl.length → (∀ x ∈ o, 0 ≤ x ∧ x ≤ maxRate) → addPs ps o = some o' → ∀ x ∈ o', 0 ≤ x ∧ x ≤ maxRate
  | [], o, o', hp, hl, ho, h => by
    obtain rfl := Option.some.inj h
    exact ho
  | p :: ps, o, o', hp, hl, ho, h => by
    simp only [List.all_cons, Bool.and_eq_true] at hp
    simp only [addPs] at h
    cases hc : addLs p.1 p.2 o with
    | none => rw [hc] at h; cases h
    | some o1 =>
      rw [hc, bS] at h
      obtain ⟨h1, _, h2⟩ := ptOk_in hp.1
      have h1 := of_decide_eq_true h1
      have hin : ∀ k ∈ p.2, 0 ≤ k ∧ k < (o.length : Int) := fun k hk => by
        have := of_decide_eq_true (List.all_eq_true.1 h2 k hk)
        omega
      have hl1 := addLs_len _ _ hc
      exact addPs_in gl ps hp.2 (by omega) (addLs_in p.1 h1.1 p.2 ho hin hc) h

end Go.Proofs.Ytiboikgoaihccaa.R
