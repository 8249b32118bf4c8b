/-
Spans that meet; rows that are alike.
-/
import Derived.Test.YtiboikgoaihccaaQ2
namespace Go.Proofs.Ytiboikgoaihccaa.R
set_option linter.unusedVariables false

/-- Have two spans something together? -/
def meetsB (a b : Int × Int) : Bool := spanMay a && (spanMay b && (decide (a.1 < b.2) && decide (b.1 < a.2)))

theorem max2 (x y : Int) : List.foldl max2I x [y] = max x y := by
  by_cases h : y > x <;> simp [max2I, h] <;> omega
theorem min2 (x y : Int) : List.foldl min2I x [y] = min x y := by
  by_cases h : y < x <;> simp [min2I, h] <;> omega

theorem both_meets (a b : Int × Int) (h1 : spanMay a = true) (h2 : spanMay b = true) : spanMay (max a.1 b.1, min a.2 b.2) = (decide (a.1 < b.2) && decide (b.1 < a.2)) := by
  simp only [spanMay, decide_eq_true_eq] at h1 h2
  simp only [spanMay, ← Bool.decide_and]
  refine decide_eq_decide.2 ?_
  omega

theorem meets_tree (a b : Int × Int) : (bif decide (a.1 ≥ b.2) then some (V.bool false) else (bif decide (b.1 ≥ a.2) then (some (.bool (false))) else (bif decide (b.1 > a.1) then (bif decide (b.2 < a.2) then (some (.bool (true))) else (some (.bool (true)))) else (bif decide (b.2 < a.2) then (some (.bool (true))) else (some (.bool (true))))))) = some (.bool (true && (true && (decide (a.1 < b.2) && decide (b.1 < a.2))))) := by
  rw [dec_lt a.1 b.2, dec_lt b.1 a.2]
  cases decide (a.1 ≥ b.2) <;> cases decide (b.1 ≥ a.2) <;> cases decide (b.1 > a.1) <;> cases decide (b.2 < a.2) <;> rfl

noncomputable def S80 : Summ := summ [tSp, tSp] Bool (fun s => some (meetsB s.1 s.2)) .bool
theorem ok80 : SumOk Try.prog 80 S80 :=
  sum_k hmix f80.E (fn := Try.f80) (code := f80.code) (by kernel_rfl) (by kernel_rfl) (by kernel_rfl) (fun _ => ttOk) f80.sums f80.inl fun d x hx => by
    obtain rfl := Option.some.inj hx
    refine ⟨0, (f80.eq 0 d.1 d.2).trans ?_⟩
    rw [max2, min2]
    unfold meetsB
    show (bif !spanMay d.1 then _ else bif !spanMay d.2 then _ else _) = _
    cases h1 : spanMay d.1
    · rfl
    cases h2 : spanMay d.2
    · rfl
    rw [both_meets d.1 d.2 h1 h2]
    cases decide (d.1.1 < d.2.2) <;> cases decide (d.2.1 < d.1.2) <;> rfl

noncomputable def S36 : Summ := S80
theorem ok36 : SumOk Try.prog 36 S36 :=
  sum_k hmix f36.E (fn := Try.f36) (code := f36.code) (by kernel_rfl) (by kernel_rfl) (by kernel_rfl) (fun _ => ttOk) f36.sums f36.inl fun d x hx => by
    obtain rfl := Option.some.inj hx
    refine ⟨0, (f36.eq 0 d.1 d.2).trans ?_⟩
    unfold meetsB
    show (bif !spanMay d.1 then _ else bif !spanMay d.2 then _ else _) = _
    cases h1 : spanMay d.1
    · rfl
    cases h2 : spanMay d.2
    · rfl
    exact meets_tree d.1 d.2

noncomputable def S30 : Summ := S85
theorem ok30 : SumOk Try.prog 30 S30 :=
  sum_k hmix f30.E (fn := Try.f30) (code := f30.code) (by kernel_rfl) (by kernel_rfl) (by kernel_rfl) (fun _ => ttOk) f30.sums f30.inl fun d x hx => by
    refine ⟨0, (f30.eq 0 d.1 d.2).trans ?_⟩
    obtain ⟨hb, hx⟩ := chk_some hx
    obtain rfl := Option.some.inj hx
    rw [chk_eq hb]
    rfl

end Go.Proofs.Ytiboikgoaihccaa.R
