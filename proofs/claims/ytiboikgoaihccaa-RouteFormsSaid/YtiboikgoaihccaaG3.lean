/-
Tables of what a function comes to.
-/
import Derived.Test.YtiboikgoaihccaaG1
namespace Go.Proofs.Ytiboikgoaihccaa.R

instance decGr : DecidableEq Gr := fun a b => inferInstanceAs (Decidable (a = b))
instance decT1 : DecidableEq (Int × Int) := fun a b => inferInstanceAs (Decidable (a = b))
instance decT2 : DecidableEq (Int × (Int × Int)) := fun a b => inferInstanceAs (Decidable (a = b))
instance decT3 : DecidableEq (Int × List Int) := fun a b => inferInstanceAs (Decidable (a = b))
instance decT4 : DecidableEq (List Int × (Int × (Int × Int))) := fun a b => inferInstanceAs (Decidable (a = b))
instance decT5 : DecidableEq (List Int × (Int × List Int)) := fun a b => inferInstanceAs (Decidable (a = b))
instance decT6 : DecidableEq (List Int × (List Int × (Int × List Int))) := fun a b => inferInstanceAs (Decidable (a = b))
instance decT7 : DecidableEq (List Int × (List Int × (Int × (Int × Int)))) := fun a b => inferInstanceAs (Decidable (a = b))

def tabS {D : Type} [DecidableEq D] : List (D × V) → D → Option V
  | [], _ => none
  | (a, r) :: t, d => bif decide (d = a) then some r else tabS t d

def AllT {D : Type} (P : D → V → Prop) : List (D × V) → Prop
  | [] => True
  | (a, r) :: t => P a r ∧ AllT P t

theorem tab_all {D : Type} [DecidableEq D] {P : D → V → Prop} : ∀ {tab : List (D × V)}, AllT P tab → ∀ {d : D} {x : V}, tabS tab d = some x → P d x
  | [], _, d, x, h => by cases h
  | (a, r) :: t, ha, d, x, h => by
    simp only [tabS] at h
    by_cases hd : d = a
    · rw [decide_eq_true hd, cT] at h
      obtain rfl := Option.some.inj h
      rw [hd]
      exact ha.1
    · rw [decide_eq_false hd, cF] at h
      exact tab_all ha.2 h

end Go.Proofs.Ytiboikgoaihccaa.R
