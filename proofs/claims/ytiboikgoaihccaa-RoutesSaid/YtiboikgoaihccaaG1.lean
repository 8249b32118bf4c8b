/-
Graphs, rates, cuts in plain Lean.
-/
import Derived.Test.YtiboikgoaihccaaS2
namespace Go.Proofs.Ytiboikgoaihccaa.R
set_option linter.unusedVariables false

@[reducible] def tLk : Ty := .pair (.int .i64) (.pair (.int .i64) (.int .i64))
@[reducible] def tG : Ty := .pair (.int .i64) (.list (.pair (.int .i64) (.pair (.int .i64) (.int .i64))))
abbrev Lk := Int × (Int × Int)
abbrev Gr := Int × List Lk

/-- The greatest rate. -/
abbrev maxRate : Int := 4611686018427387904

def rateB (x : Int) : Bool := decide (0 ≤ x ∧ x ≤ maxRate)

/-- What rates are together, if that is one. -/
def sumUp : Int → List Int → Option Int
  | a, [] => some a
  | a, x :: xs => bif decide (0 ≤ x ∧ x ≤ maxRate - a) then sumUp (a + x) xs else none

def hasV (n v : Int) : Bool := decide (0 ≤ v ∧ v < n)
def linkOk (n : Int) (l : Lk) : Bool := hasV n l.1 && (hasV n l.2.1 && !(l.1 == l.2.1))
def capsOf (g : Gr) : List Int := g.2.map fun l => l.2.2
def shapeB (g : Gr) : Bool := decide (2 ≤ g.1 ∧ g.1 ≤ 8) && (decide (g.2.length ≤ 16) && g.2.all (linkOk g.1))
def graphMay (g : Gr) : Bool := shapeB g && (sumUp 0 (capsOf g)).isSome

def amongB (vs : List Int) (v : Int) : Bool := vs.any fun x => x == v

/-- Vertices, rising? -/
def risingB (n : Int) : Option Int → List Int → Bool
  | _, [] => true
  | p, v :: vs => hasV n v && ((match p with | none => true | some q => decide (q < v)) && risingB n (some v) vs)

/-- Caps of links? -/
def withinL : List Int → List Lk → Bool
  | [], [] => true
  | c :: cs, l :: ls => decide (0 ≤ c ∧ c ≤ l.2.2) && withinL cs ls
  | _, _ => false
def capsMay (g : Gr) (cs : List Int) : Bool := graphMay g && withinL cs g.2

/-- Does a link leave a set? -/
def leavesB (vs : List Int) (l : Lk) : Bool := amongB vs l.1 && !amongB vs l.2.1
def leaveFrom (vs : List Int) : Nat → List Lk → List Int
  | _, [] => []
  | i, l :: ls => bif leavesB vs l then (i : Int) :: leaveFrom vs (i + 1) ls else leaveFrom vs (i + 1) ls
def leaving (g : Gr) (vs : List Int) : List Int × Int :=
  bif risingB g.1 none vs && graphMay g then (leaveFrom vs 0 g.2, 0) else ([], 800)

/-- What links out of a set take. -/
def worthL (vs : List Int) : List Lk → List Int → Int
  | l :: ls, c :: cs => (bif leavesB vs l then c else 0) + worthL vs ls cs
  | _, _ => 0
def worth (g : Gr) (cs vs : List Int) : Int × Int :=
  bif risingB g.1 none vs && capsMay g cs then (worthL vs g.2 cs, 0) else (0, 800)
def cutMay (g : Gr) (src dst : Int) (vs : List Int) : Bool :=
  (risingB g.1 none vs && graphMay g) && (hasV g.1 dst && (amongB vs src && !amongB vs dst))
def proves (g : Gr) (cs : List Int) (src dst want : Int) (vs : List Int) : Bool × Int :=
  bif capsMay g cs then (cutMay g src dst vs && decide (worthL vs g.2 cs < want), 0) else (false, 800)

/-! ### Laws -/
theorem sumUp_lo : ∀ (xs : List Int) (a t : Int), sumUp a xs = some t → 0 ≤ a → a ≤ maxRate → a ≤ t ∧ t ≤ maxRate ∧ ∀ x ∈ xs, 0 ≤ x ∧ x ≤ maxRate
  | [], a, t, h, h0, h1 => by
    simp only [sumUp, Option.some.injEq] at h
    subst h
    exact ⟨by omega, h1, by simp⟩
  | x :: xs, a, t, h, h0, h1 => by
    simp only [sumUp] at h
    by_cases hx : 0 ≤ x ∧ x ≤ maxRate - a
    · rw [decide_eq_true hx, cT] at h
      obtain ⟨h2, h3, h4⟩ := sumUp_lo xs (a + x) t h (by omega) (by omega)
      refine ⟨by omega, h3, fun y hy => ?_⟩
      rcases List.mem_cons.1 hy with rfl | hy
      · constructor <;> omega
      · exact h4 y hy
    · rw [decide_eq_false hx, cF] at h
      cases h

theorem sum_nonneg' : ∀ (xs : List Int), (∀ x ∈ xs, 0 ≤ x) → 0 ≤ xs.sum
  | [], _ => by simp
  | x :: xs, h => by
    have := h x (by simp)
    have := sum_nonneg' xs fun y hy => h y (by simp [hy])
    rw [List.sum_cons]
    omega

theorem sumUp_eq : ∀ (xs : List Int) (a : Int), (∀ x ∈ xs, 0 ≤ x) → 0 ≤ a → a + xs.sum ≤ maxRate → sumUp a xs = some (a + xs.sum)
  | [], a, _, _, _ => by simp [sumUp]
  | x :: xs, a, h, h0, h1 => by
    have hx := h x (by simp)
    have hs : 0 ≤ xs.sum := sum_nonneg' xs fun y hy => h y (by simp [hy])
    rw [List.sum_cons] at h1
    simp only [sumUp]
    rw [decide_eq_true (by omega : 0 ≤ x ∧ x ≤ maxRate - a), cT, sumUp_eq xs (a + x) (fun y hy => h y (by simp [hy])) (by omega) (by omega), List.sum_cons]
    congr 1
    omega

theorem sumUp_sum : ∀ (xs : List Int) (a t : Int), sumUp a xs = some t → t = a + xs.sum
  | [], a, t, h => by simp only [sumUp, Option.some.injEq] at h; simp [h]
  | x :: xs, a, t, h => by
    simp only [sumUp] at h
    cases hd : decide (0 ≤ x ∧ x ≤ maxRate - a) with
    | false => rw [hd, cF] at h; cases h
    | true =>
      rw [hd, cT] at h
      have := sumUp_sum xs (a + x) t h
      rw [List.sum_cons]
      omega

theorem withinL_len : ∀ {cs : List Int} {ls : List Lk}, withinL cs ls = true → cs.length = ls.length
  | [], [], _ => rfl
  | c :: cs, l :: ls, h => by
    simp only [withinL, Bool.and_eq_true] at h
    simp [withinL_len h.2]
  | [], _ :: _, h => by simp [withinL] at h
  | _ :: _, [], h => by simp [withinL] at h

/-- What leaves a set is no more than all. -/
theorem worthL_le (vs : List Int) : ∀ {ls : List Lk} {cs : List Int}, withinL cs ls = true → 0 ≤ worthL vs ls cs ∧ worthL vs ls cs ≤ (ls.map fun l => l.2.2).sum
  | [], [], _ => by simp [worthL]
  | l :: ls, c :: cs, h => by
    simp only [withinL, Bool.and_eq_true] at h
    have hc := of_decide_eq_true h.1
    have ih := worthL_le vs h.2
    simp only [worthL, List.map_cons, List.sum_cons]
    cases leavesB vs l <;> simp only [cT, cF] <;> constructor <;> omega
  | [], _ :: _, h => by simp [withinL] at h
  | _ :: _, [], h => by simp [withinL] at h

theorem worth_lo {g : Gr} {cs : List Int} (h : capsMay g cs = true) (vs : List Int) : 0 ≤ worthL vs g.2 cs ∧ worthL vs g.2 cs ≤ maxRate := by
  simp only [capsMay, graphMay, Bool.and_eq_true] at h
  obtain ⟨⟨_, h1⟩, h2⟩ := h
  obtain ⟨t, ht⟩ := Option.isSome_iff_exists.1 h1
  have := sumUp_lo _ _ _ ht (by omega) (by decide)
  have hs := sumUp_sum _ _ _ ht
  have hw := worthL_le vs h2
  have e : (capsOf g).sum = (g.2.map fun l => l.2.2).sum := rfl
  omega

end Go.Proofs.Ytiboikgoaihccaa.R
