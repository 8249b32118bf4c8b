/-
Vertices that prove that a rate has no room.
-/
import Derived.Test.YtiboikgoaihccaaQ15
namespace Go.Proofs.Ytiboikgoaihccaa.R
set_option linter.unusedVariables false

@[reducible] def resBI (x : Bool × Int) : V := .tup [.bool x.1, .int .i64 x.2]
noncomputable def S46 : Summ := summ [tG, tL, tI, tI, tI, tL] (Bool × Int) (fun (d : Gr × (List Int × (Int × (Int × (Int × List Int))))) => chk (decide (d.2.2.2.2.2.length < 4611686018427387904)) (some (proves d.1 d.2.1 d.2.2.1 d.2.2.2.1 d.2.2.2.2.1 d.2.2.2.2.2))) resBI
noncomputable def S47 : Summ := S46

theorem ok46 : SumOk Try.prog 46 S46 :=
  sum_k hmix f46.E (fn := Try.f46) (code := f46.code) (by kernel_rfl) (by kernel_rfl) (by kernel_rfl) (fun _ => ttOk) f46.sums f46.inl fun (d : Gr × (List Int × (Int × (Int × (Int × List Int))))) x hx => by
    obtain ⟨g, cs, src, dst, want, vs⟩ := d
    obtain ⟨hb, hx⟩ := chk_some hx
    obtain rfl := Option.some.inj hx
    refine ⟨0, (f46.eq _ g cs src dst want vs).trans ?_⟩
    rw [chk_eq hb, bS, chk_eq hb, bS]
    unfold worth proves cutMay
    cases hc : capsMay g cs with
    | false => rw [Bool.not_false, cT, cF]
    | true =>
      simp only [caps_graph hc, Bool.and_true, Bool.not_true, cF, cT]
      cases risingB g.1 none vs with
      | false => rw [cF]; rfl
      | true =>
        rw [cT]
        cases decide (worthL vs g.2 cs < want) <;> cases hasV g.1 dst <;> cases amongB vs src <;> cases amongB vs dst <;> rfl

theorem ok47 : SumOk Try.prog 47 S47 :=
  sum_k hmix f47.E (fn := Try.f47) (code := f47.code) (by kernel_rfl) (by kernel_rfl) (by kernel_rfl) (fun _ => ttOk) f47.sums f47.inl fun (d : Gr × (List Int × (Int × (Int × (Int × List Int))))) x hx => by
    obtain ⟨g, cs, src, dst, want, vs⟩ := d
    obtain ⟨hb, hx⟩ := chk_some hx
    obtain rfl := Option.some.inj hx
    refine ⟨0, (f47.eq _ g cs src dst want vs).trans ?_⟩
    rw [chk_eq hb, bS, chk_eq hb, bS]
    unfold worth proves cutMay
    cases hc : capsMay g cs with
    | false => rw [Bool.not_false, cT, cF]
    | true =>
      simp only [caps_graph hc, Bool.and_true, Bool.not_true, cF, cT]
      cases risingB g.1 none vs with
      | false => rw [Bool.false_and, Bool.not_false, cT]; rfl
      | true =>
        rw [cT]
        cases hasV g.1 dst <;> cases amongB vs src <;> cases amongB vs dst <;> rfl

end Go.Proofs.Ytiboikgoaihccaa.R
