/-
Slots of time.
-/
import Derived.Test.YtiboikgoaihccaaQ3
namespace Go.Proofs.Ytiboikgoaihccaa.R
set_option linter.unusedVariables false

def slotOf (i : Int) : Int × Int := (i * 256, i * 256 + 256)
noncomputable def S81 : Summ := summ [tI] (Int × Int) (fun (i : Int) => chk (decide (0 ≤ i ∧ i < 16)) (some (slotOf i))) (fun x => encV tSp x)
noncomputable def S84 : Summ := S81

theorem ok81 : SumOk Try.prog 81 S81 :=
  sum_k hmix f81.E (fn := Try.f81) (code := f81.code) (by kernel_rfl) (by kernel_rfl) (by kernel_rfl) (fun _ => ttOk) f81.sums f81.inl fun (d : Int) x hx => by
    obtain ⟨hb, hx⟩ := chk_some hx
    obtain rfl := Option.some.inj hx
    have hb : 0 ≤ d ∧ d < 16 := by simpa using hb
    refine ⟨0, (f81.eq 0 d).trans ?_⟩
    rw [wrap64 (n := d * 256) (by omega), wrap64 (n := d + 1) (by omega), wrap64 (by omega), show (d + 1) * 256 = d * 256 + 256 by omega]
    rfl

theorem ok84 : SumOk Try.prog 84 S84 :=
  sum_k hmix f84.E (fn := Try.f84) (code := f84.code) (by kernel_rfl) (by kernel_rfl) (by kernel_rfl) (fun _ => ttOk) f84.sums f84.inl fun (d : Int) x hx => by
    obtain ⟨hb, hx⟩ := chk_some hx
    obtain rfl := Option.some.inj hx
    have hb : 0 ≤ d ∧ d < 16 := by simpa using hb
    refine ⟨0, (f84.eq 0 d).trans ?_⟩
    rw [wrap64 (n := d * 256) (by omega), wrap64 (by omega)]
    rfl

end Go.Proofs.Ytiboikgoaihccaa.R
