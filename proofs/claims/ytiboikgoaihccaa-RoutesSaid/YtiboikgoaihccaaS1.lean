/-
Small functions: spans, rows of numbers, marks.
-/
import Derived.Test.YtiboikgoaihccaaQ1
namespace Go.Proofs.Ytiboikgoaihccaa.R
set_option linter.unusedVariables false

@[reducible] def tI : Ty := .int .i64
@[reducible] def tL : Ty := .list (.int .i64)
@[reducible] def tSp : Ty := .pair (.int .i64) (.int .i64)

@[reducible] def resLE (x : List Int × Int) : V := .tup [.own tI x.1, .int .i64 x.2]

def spanMay (s : Int × Int) : Bool := decide (0 ≤ s.1 ∧ s.1 < s.2 ∧ s.2 ≤ 4096)

noncomputable def S77 : Summ := summ [tSp] Bool (fun s => some (spanMay s)) .bool
noncomputable def S83 : Summ := S77

theorem ok77 : SumOk Try.prog 77 S77 :=
  sum_k hmix f77.E (fn := Try.f77) (code := f77.code) (by kernel_rfl) (by kernel_rfl) (by kernel_rfl) (fun _ => ttOk) f77.sums f77.inl fun d x hx => by
    obtain rfl := Option.some.inj hx
    refine ⟨0, (f77.eq 0 d).trans ?_⟩
    unfold spanMay
    by_cases h1 : d.fst ≥ 0 <;> by_cases h2 : d.fst < d.snd <;> by_cases h3 : d.snd ≤ 4096 <;> simp [h1, h2, h3] <;> omega

theorem ok83 : SumOk Try.prog 83 S83 :=
  sum_k hmix f83.E (fn := Try.f83) (code := f83.code) (by kernel_rfl) (by kernel_rfl) (by kernel_rfl) (fun _ => ttOk) f83.sums f83.inl fun d x hx => by
    obtain rfl := Option.some.inj hx
    refine ⟨0, (f83.eq 0 d).trans ?_⟩
    unfold spanMay
    by_cases h1 : d.fst ≥ 0 <;> by_cases h2 : d.fst < d.snd <;> by_cases h3 : d.snd ≤ 4096 <;> simp [h1, h2, h3] <;> omega

noncomputable def S31 : Summ := summ [tI] Int (fun n => some n) (.int .i64)
theorem ok31 : SumOk Try.prog 31 S31 :=
  sum_k hmix f31.E (fn := Try.f31) (code := f31.code) (by kernel_rfl) (by kernel_rfl) (by kernel_rfl) (fun _ => ttOk) f31.sums f31.inl fun d x hx => by
    obtain rfl := Option.some.inj hx
    exact ⟨0, f31.eq 0 d⟩

noncomputable def S86 : Summ := summ [] (List Int) (fun _ => some (List.replicate 16 0)) (.own tI)
theorem ok86 : SumOk Try.prog 86 S86 :=
  sum_k hmix f86.E (fn := Try.f86) (code := f86.code) (by kernel_rfl) (by kernel_rfl) (by kernel_rfl) (fun _ => ttOk) f86.sums f86.inl fun d x hx => by
    obtain rfl := Option.some.inj hx
    exact ⟨0, f86.eq 0⟩

/-- A row's copy. -/
def cpy {α : Type} (b : Nat) (l : List α) : Option (List α) := chk (decide (l.length * b ≤ 140737488355328)) (some l)

noncomputable def S25 : Summ := summ [.list tSp] (List (Int × Int)) (cpy 16) (.own tSp)
theorem ok25 : SumOk Try.prog 25 S25 :=
  sum_k hmix f25.E (fn := Try.f25) (code := f25.code) (by kernel_rfl) (by kernel_rfl) (by kernel_rfl) (fun _ => ttOk) f25.sums f25.inl fun d x hx => by
    obtain ⟨hb, hx⟩ := chk_some hx
    obtain rfl := Option.some.inj hx
    refine ⟨0, (f25.eq 0 d).trans ?_⟩
    rw [List.nil_append]
    exact chk_eq hb

noncomputable def S65 : Summ := summ [tL] (List Int) (cpy 8) (.own tI)
theorem ok65 : SumOk Try.prog 65 S65 :=
  sum_k hmix f65.E (fn := Try.f65) (code := f65.code) (by kernel_rfl) (by kernel_rfl) (by kernel_rfl) (fun _ => ttOk) f65.sums f65.inl fun d x hx => by
    obtain ⟨hb, hx⟩ := chk_some hx
    obtain rfl := Option.some.inj hx
    refine ⟨0, (f65.eq 0 d).trans ?_⟩
    rw [List.nil_append]
    exact chk_eq hb

noncomputable def S78 : Summ := summ [tL] (List Int) (cpy 8) (.own tI)
theorem ok78 : SumOk Try.prog 78 S78 :=
  sum_k hmix f78.E (fn := Try.f78) (code := f78.code) (by kernel_rfl) (by kernel_rfl) (by kernel_rfl) (fun _ => ttOk) f78.sums f78.inl fun d x hx => by
    obtain ⟨hb, hx⟩ := chk_some hx
    obtain rfl := Option.some.inj hx
    refine ⟨0, (f78.eq 0 d).trans ?_⟩
    cases d with
    | nil => simp
    | cons m ms =>
      have h5 : ((((m :: ms : List Int).length : Int) == 0)) = false := by simp; omega
      rw [h5, cF, List.nil_append]
      exact chk_eq hb

theorem f85.same (a b : List Int) (h : a.length = b.length) (hl : a.length < 4611686018427387904) (k : Nat) : f85.l0 k (a.length + 1) a b 0 = some (.bool (sameB a b)) := by
  have hz : (a.zip b).length = a.length := by simp [h]
  have := loop_any0 (fun n i => f85.l0 k n a b (i : Nat)) (a.zip b) (fun x => x.1 != x.2) (some (.bool false)) (some (.bool true)) (fun n i x hx => by
    obtain ⟨ha, hb⟩ := zip_get hx
    have := idx_lt ha
    rw [f85.l0_eq, idx_lt' ha, idx_in ha, idx_in hb, rd_some (t := tI) ha, rd_some (t := tI) hb, wrap_succ (by omega)]
    rfl) (fun n => by rw [hz, f85.l0_eq, end_lt]; rfl) (n := a.length + 1) (by omega)
  refine this.trans ?_
  rw [any_zip_ne h]
  unfold sameB
  cases a == b <;> rfl

noncomputable def S85 : Summ := summ [tL, tL] Bool (fun d => chk (decide (d.1.length < 4611686018427387904)) (some (sameB d.1 d.2))) .bool
theorem ok85 : SumOk Try.prog 85 S85 :=
  sum_k hmix f85.E (fn := Try.f85) (code := f85.code) (by kernel_rfl) (by kernel_rfl) (by kernel_rfl) (fun _ => ttOk) f85.sums f85.inl fun d x hx => by
    obtain ⟨hb, hx⟩ := chk_some hx
    obtain rfl := Option.some.inj hx
    refine ⟨d.1.length + 1, (f85.eq _ d.1 d.2).trans ?_⟩
    by_cases h : d.1.length = d.2.length
    · rw [show ((d.1.length : Int) != (d.2.length : Int)) = false by simp [h], cF]
      exact f85.same d.1 d.2 h (by simpa using hb) _
    · rw [show ((d.1.length : Int) != (d.2.length : Int)) = true by simp; omega]
      rw [sameB_ne fun e => h (by rw [e]), cT]

theorem f35.same (a b : List (Int × Int)) (h : a.length = b.length) (hl : a.length < 4611686018427387904) (k : Nat) : f35.l0 k (a.length + 1) a b 0 = some (.bool (sameB a b)) := by
  have hz : (a.zip b).length = a.length := by simp [h]
  have := loop_any0 (fun n i => f35.l0 k n a b (i : Nat)) (a.zip b) (fun x => x.1 != x.2) (some (.bool false)) (some (.bool true)) (fun n i x hx => by
    obtain ⟨ha, hb⟩ := zip_get hx
    have := idx_lt ha
    rw [f35.l0_eq, idx_lt' ha, idx_in ha, idx_in hb, rd_some (t := tSp) ha, rd_some (t := tSp) hb, wrap_succ (by omega)]
    simp only [cT, kT, Bool.and_true]
    rfl) (fun n => by rw [hz, f35.l0_eq, end_lt]; rfl) (n := a.length + 1) (by omega)
  refine this.trans ?_
  rw [any_zip_ne h]
  unfold sameB
  cases a == b <;> rfl

noncomputable def S35 : Summ := summ [.list tSp, .list tSp] Bool (fun d => chk (decide (d.1.length < 4611686018427387904)) (some (sameB d.1 d.2))) .bool
theorem ok35 : SumOk Try.prog 35 S35 :=
  sum_k hmix f35.E (fn := Try.f35) (code := f35.code) (by kernel_rfl) (by kernel_rfl) (by kernel_rfl) (fun _ => ttOk) f35.sums f35.inl fun d x hx => by
    obtain ⟨hb, hx⟩ := chk_some hx
    obtain rfl := Option.some.inj hx
    refine ⟨d.1.length + 1, (f35.eq _ d.1 d.2).trans ?_⟩
    by_cases h : d.1.length = d.2.length
    · rw [show ((d.1.length : Int) != (d.2.length : Int)) = false by simp [h], cF]
      exact f35.same d.1 d.2 h (by simpa using hb) _
    · rw [show ((d.1.length : Int) != (d.2.length : Int)) = true by simp; omega]
      rw [sameB_ne fun e => h (by rw [e]), cT]

def markOk (m : Int) : Bool := decide (0 ≤ m ∧ m ≤ 1099511627776)
def marksMay (ms : List Int) : Bool := decide (ms.length = 16) && ms.all markOk

theorem f74.loop (k : Nat) (ms : List Int) (hl : ms.length < 4611686018427387904) : f74.l0 k (ms.length + 1) ms ms.length 0 = some (.bool (ms.all markOk)) := by
  have := loop_any0 (fun n i => f74.l0 k n ms ms.length (i : Nat)) ms (fun x => !markOk x) (some (.bool false)) (some (.bool true)) (fun n i x hx => by
    have := idx_lt hx
    rw [f74.l0_eq, idx_lt' hx, idx_in hx, rd_some (t := tI) hx, wrap_succ (by omega)]
    have hm : markOk x = (!decide (x < 0) && !decide (x > 1099511627776)) := by simp only [markOk, ← decide_not, ← Bool.decide_and]; exact decide_eq_decide.2 (by omega)
    rw [hm]
    have e : decide ((i : Int) ≥ 0) = true := by simp
    rw [e]
    cases decide (x < 0) <;> cases decide (x > 1099511627776) <;> rfl) (fun n => by rw [f74.l0_eq, end_lt]; rfl) (n := ms.length + 1) (by omega)
  refine this.trans ?_
  rw [← List.not_all_eq_any_not]
  cases ms.all markOk <;> rfl

noncomputable def S74 : Summ := summ [tL] Bool (fun ms => some (marksMay ms)) .bool
theorem ok74 : SumOk Try.prog 74 S74 :=
  sum_k hmix f74.E (fn := Try.f74) (code := f74.code) (by kernel_rfl) (by kernel_rfl) (by kernel_rfl) (fun _ => ttOk) f74.sums f74.inl fun ms x hx => by
    obtain rfl := Option.some.inj hx
    refine ⟨ms.length + 1, (f74.eq _ ms).trans ?_⟩
    unfold marksMay
    by_cases h : ms.length = 16
    · rw [show ((ms.length : Int) == 16) = true by simp [h], cT, f74.loop _ _ (by omega), h]
      simp
    · rw [show ((ms.length : Int) == 16) = false by simp; omega]
      simp [h]

noncomputable def S82 : Summ := S74
theorem f82.loop (k : Nat) (ms : List Int) (hl : ms.length < 4611686018427387904) : f82.l0 k (ms.length + 1) ms 0 = some (.bool (ms.all markOk)) := by
  have := loop_any0 (fun n i => f82.l0 k n ms (i : Nat)) ms (fun x => !markOk x) (some (.bool false)) (some (.bool true)) (fun n i x hx => by
    have := idx_lt hx
    rw [f82.l0_eq, idx_lt' hx, idx_in hx, rd_some (t := tI) hx, wrap_succ (by omega)]
    have hm : markOk x = (!decide (x < 0) && !decide (x > 1099511627776)) := by simp only [markOk, ← decide_not, ← Bool.decide_and]; exact decide_eq_decide.2 (by omega)
    rw [hm]
    cases decide (x < 0) <;> cases decide (x > 1099511627776) <;> rfl) (fun n => by rw [f82.l0_eq, end_lt]; rfl) (n := ms.length + 1) (by omega)
  refine this.trans ?_
  rw [← List.not_all_eq_any_not]
  cases ms.all markOk <;> rfl
theorem ok82 : SumOk Try.prog 82 S82 :=
  sum_k hmix f82.E (fn := Try.f82) (code := f82.code) (by kernel_rfl) (by kernel_rfl) (by kernel_rfl) (fun _ => ttOk) f82.sums f82.inl fun ms x hx => by
    obtain rfl := Option.some.inj hx
    refine ⟨ms.length + 1, (f82.eq _ ms).trans ?_⟩
    unfold marksMay
    by_cases h : ms.length = 16
    · rw [show ((ms.length : Int) != 16) = false by simp [h], cF, f82.loop _ _ (by omega), h]
      simp
    · rw [show ((ms.length : Int) != 16) = true by simp; omega]
      simp [h]

end Go.Proofs.Ytiboikgoaihccaa.R
