/-
An environment of the evaluator out of lists; small laws of what is shown of an evaluation.
-/
import Derived.Test.YtiboikgoaihccaaR31
namespace Go.Proofs.Ytiboikgoaihccaa.R

def lookD {α : Type} : List (Nat × Nat × List α) → Nat → Nat → List α
  | [], _, _ => []
  | (f, r, x) :: m, g, s => bif f == g && r == s then x else lookD m g s

/-- Numbers by their ranges. -/
def rg (l : List (Nat × Nat)) : List Nat := l.flatMap fun p => (List.range (p.2 + 1 - p.1)).map (· + p.1)

def mkEnv (tt : Nat → TI) (sums : List (Nat × Summ)) (inl : List (Nat × Func)) (ds : List (Nat × Nat × List Ghost)) (ks : List (Nat × Nat × List Nat)) (k : Nat) : Env :=
  { tt := tt, sums := sums, inl := inl, dirs := lookD ds, dead := lookD ks, fuel := k }

section
variable {R S : Type} {b : Bool} {x y : Option R} {f : R → Option S}

@[simp] theorem chk_true : chk true x = x := rfl
@[simp] theorem chk_false : chk false x = none := rfl
@[simp] theorem chk_bind : (chk b x).bind f = chk b (x.bind f) := by cases b <;> rfl
@[simp] theorem both_self : both x x = x := by unfold both; simp
theorem chk_eq (h : b = true) : chk b x = x := by subst h; rfl
theorem bif_bind {c : Bool} : (bif c then x else y).bind f = bif c then x.bind f else y.bind f := by cases c <;> rfl
end
end Go.Proofs.Ytiboikgoaihccaa.R
