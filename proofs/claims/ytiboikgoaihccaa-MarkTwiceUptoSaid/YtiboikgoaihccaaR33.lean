/-
What is known of a function that takes pure data.
-/
import Derived.Test.YtiboikgoaihccaaR32
namespace Go.Proofs.Ytiboikgoaihccaa.R
open Go.RowKit
set_option linter.unusedVariables false

def isAggB : V → Bool
  | .agg _ => true
  | _ => false

/-- A value as data of a type. -/
def decV (t : Ty) (v : V) : Option t.den := bif isAggB v == t.agg then decAll t v.cells else none

/-- The data of parameters. -/
@[reducible] def Dens : List Ty → Type
  | [] => Unit
  | [t] => t.den
  | t :: ts => t.den × Dens ts

def decL : (ts : List Ty) → List V → Option (Dens ts)
  | [], [] => some ()
  | [t], [v] => decV t v
  | t :: u :: ts, v :: vs => (decV t v).bind fun x => (decL (u :: ts) vs).bind fun y => some (x, y)
  | _, _ => none

def encL : (ts : List Ty) → Dens ts → List V
  | [], _ => []
  | [t], x => [encV t x]
  | t :: u :: ts, x => encV t x.1 :: encL (u :: ts) x.2

theorem decV_rel {B : Nat → Prop} {w : World} {t : Ty} {v : V} {x : Value} {d : t.den} (hv : V3 (cxP B w) v x) (h : decV t v = some d) : V3 (cxP B w) (encV t d) x := by
  unfold decV at h
  obtain ⟨h1, h2⟩ := cond_some h
  have h1 : isAggB v = t.agg := by simpa using h1
  have idP : ∀ v y, V0 (cxP B w) v y → V0 ⟨[], fun _ => none, B, w⟩ v y := fun _ _ h => h
  cases hag : t.agg with
  | true =>
    rw [hag] at h1
    cases v <;> simp only [isAggB, Bool.false_eq_true] at h1
    rename_i cs
    obtain ⟨ys, rfl, ha⟩ := hv
    have hd := decAll_rel (S := cxP B w) t idP ha h2
    have he := (DRel.enc (S := cxP B w) hd).mono fun _ _ hh => hh.to
    unfold encV
    rw [hag]
    exact ⟨ys, rfl, he⟩
  | false =>
    rw [hag] at h1
    have hvt : v.isTup = false := by
      cases v <;> first | rfl | (exfalso; revert h2; cases t <;> simp [decAll, V.cells, dec] <;> simp [Ty.agg] at hag)
    have hva : v.isAgg = false := by cases v <;> first | rfl | simp [isAggB] at h1
    have hc : v.cells = [v] := by cases v <;> first | rfl | simp [V.isAgg] at hva
    rw [hc] at h2
    have hv1 : V1 (cxP B w) v x := by
      rcases V3.cases hv with ⟨_, rfl, _⟩ | ⟨_, h3⟩
      · simp [V.isTup] at hvt
      rcases V2.cases h3 with ⟨_, rfl, _⟩ | ⟨_, h4⟩
      · simp [V.isAgg] at hva
      · exact h4
    have hd := decAll_rel (S := cxP B w) (cs := [v]) (ys := [x]) t idP ⟨hv1, trivial⟩ h2
    have he := (DRel.enc (S := cxP B w) hd).mono fun _ _ hh => hh.to
    unfold encV
    rw [hag]
    cases hu : enc t d with
    | nil => rw [hu] at he; exact he.elim
    | cons u us =>
      rw [hu] at he
      cases us with
      | nil => exact V3.of1 he.1
      | cons u2 us => exact he.2.elim

theorem decL_rel {B : Nat → Prop} {w : World} : ∀ (ts : List Ty) {vs : List V} {xs : List Value} {d : Dens ts}, All2 (V3 (cxP B w)) vs xs → decL ts vs = some d → All2 (V3 (cxP B w)) (encL ts d) xs
  | [], vs, xs, d, ha, h => by
    cases vs with
    | nil => exact ha
    | cons v vs => simp [decL] at h
  | [t], vs, xs, d, ha, h => by
    cases vs with
    | nil => simp [decL] at h
    | cons v vs =>
      cases vs with
      | nil =>
        cases xs with
        | nil => exact ha.elim
        | cons x xs => exact ⟨decV_rel ha.1 h, ha.2⟩
      | cons v2 vs => simp [decL] at h
  | t :: u :: ts, vs, xs, d, ha, h => by
    cases vs with
    | nil => simp [decL] at h
    | cons v vs =>
      cases xs with
      | nil => exact ha.elim
      | cons x xs =>
        simp only [decL] at h
        cases h1 : decV t v with
        | none => rw [h1] at h; cases h
        | some d1 =>
          rw [h1] at h
          cases h2 : decL (u :: ts) vs with
          | none => rw [h2] at h; cases h
          | some d2 =>
            rw [h2] at h
            simp only [Option.bind_some, Option.some.injEq] at h
            subst h
            exact ⟨decV_rel ha.1 h1, decL_rel (u :: ts) ha.2 h2⟩

/-- A function of pure data. -/
def summ (ts : List Ty) (rt : Type) (f : Dens ts → Option rt) (res : rt → V) : Summ := { rt := rt, call := fun vs => (decL ts vs).bind f, res := res }

/-- What is known of a function of pure data, by its evaluation. -/
theorem sum_of {P : Program} (hm : P.follows .mixedOrders = true) {f : FuncId} {fn : Func} {code : Code} {ts : List Ty} {rt : Type} {g : Dens ts → Option rt} {res : rt → V} (hf : P.funcs[f]? = some fn) (hn : (fn.name == "runtime.NumGoroutine") = false) (hb : fn.body = some code)
    (h : ∀ d x, g d = some x → ∃ E c, TtOk P E.tt ∧ SumsOk P E ∧ InlOk P E ∧ evFn E c f fn (encL ts d) = some (res x)) : SumOk P f (summ ts rt g res) := by
  refine ⟨⟨fn, code, hf, hn, hb⟩, fun B w vs xs x hB hv hx => ?_⟩
  have hx : (decL ts vs).bind g = some x := hx
  cases hd : decL ts vs with
  | none => rw [hd] at hx; cases hx
  | some d =>
    rw [hd] at hx
    obtain ⟨E, c, hT, hS, hI, he⟩ := h d x hx
    exact evFn_sound hT hS hI (fun C r H hH => drawOk hm hT hS H hH) hf hb he hB (decL_rel ts hv hd)

/-! ### Environments -/
theorem inl_nil {P : Program} {tt : Nat → TI} {sums : List (Nat × Summ)} {ds : List (Nat × Nat × List Ghost)} {ks : List (Nat × Nat × List Nat)} {k : Nat} : InlOk P (mkEnv tt sums [] ds ks k) := fun g fn h => by cases h

theorem inl_cons {P : Program} {tt : Nat → TI} {sums : List (Nat × Summ)} {ds : List (Nat × Nat × List Ghost)} {ks : List (Nat × Nat × List Nat)} {k g : Nat} {fn : Func} {inl : List (Nat × Func)} (h1 : P.funcs[g]? = some fn) (h2 : (fn.name == "runtime.NumGoroutine") = false) (h : InlOk P (mkEnv tt sums inl ds ks k)) :
    InlOk P (mkEnv tt sums ((g, fn) :: inl) ds ks k) := by
  intro g' fn' he
  have he : (bif g == g' then some fn else lookF inl g') = some fn' := he
  by_cases hg : g = g'
  · subst hg
    simp only [beq_self_eq_true, cond_true, Option.some.injEq] at he
    subst he
    exact ⟨h1, h2⟩
  · have : (g == g') = false := by simpa using hg
    rw [this] at he
    exact h g' fn' he

theorem sums_nil {P : Program} {tt : Nat → TI} {inl : List (Nat × Func)} {ds : List (Nat × Nat × List Ghost)} {ks : List (Nat × Nat × List Nat)} {k : Nat} : SumsOk P (mkEnv tt [] inl ds ks k) := fun g s h => by cases h

theorem sums_cons {P : Program} {tt : Nat → TI} {sums : List (Nat × Summ)} {inl : List (Nat × Func)} {ds : List (Nat × Nat × List Ghost)} {ks : List (Nat × Nat × List Nat)} {k g : Nat} {s : Summ} (h1 : SumOk P g s) (h : SumsOk P (mkEnv tt sums inl ds ks k)) :
    SumsOk P (mkEnv tt ((g, s) :: sums) inl ds ks k) := by
  intro g' s' he
  have he : (bif g == g' then some s else lookS sums g') = some s' := he
  by_cases hg : g = g'
  · subst hg
    simp only [beq_self_eq_true, cond_true, Option.some.injEq] at he
    subst he
    exact h1
  · have : (g == g') = false := by simpa using hg
    rw [this] at he
    exact h g' s' he

end Go.Proofs.Ytiboikgoaihccaa.R
