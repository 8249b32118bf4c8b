/-
Operations look at their operands and at the entries to which these refer, and at nothing else.
-/
import Derived.Test.YtiboikgoaihccaaR24
namespace Go.Proofs.Ytiboikgoaihccaa.R
open Go.RowKit
set_option linter.unusedVariables false
set_option linter.unusedSimpArgs false

/-- Two states are alike to a reader of these values. -/
def AgrV (σ τ : St) (v : V) : Prop := ∀ e ∈ refs3 v, look σ.mem e = look τ.mem e

def Agr (σ τ : St) (op : Op) : Prop := ∀ x ∈ op.operands.toList, σ.eval x = τ.eval x ∧ AgrV σ τ (σ.eval x)

section
variable {E : Env} {σ τ σ' : St} {nm : Nat} {ty : TypeId} {bs : List Bool} {v : V}

theorem ref0_refs1 {v : V} {e : Nat} (h : e ∈ ref0 v) : e ∈ refs1 v := by cases v <;> first | exact h | simp [ref0] at h
theorem refs1_refs2 {v : V} {e : Nat} (h : e ∈ refs1 v) : e ∈ refs2 v := by cases v <;> first | exact h | simp [refs1, ref0] at h
theorem refs2_refs3 {v : V} {e : Nat} (h : e ∈ refs2 v) : e ∈ refs3 v := by cases v <;> first | exact h | simp [refs2, refs1, ref0] at h

theorem pure1_congr (h : ∀ e ∈ ref0 v, look σ.mem e = look τ.mem e) : pure1 σ v = pure1 τ v := by
  cases v <;> first | rfl | (simp only [pure1]; rw [h _ (by simp [ref0])])

theorem pureV_congr (h : AgrV σ τ v) : pureV σ v = pureV τ v := by
  by_cases hv : v.isAgg = true
  · cases v <;> simp only [V.isAgg, Bool.false_eq_true] at hv
    rename_i cs
    simp only [pureV]
    congr 1
    refine List.map_congr_left fun c hc => pure1_congr fun e he => h e ?_
    simp only [refs3, refs2, List.mem_flatMap]
    exact ⟨c, hc, ref0_refs1 he⟩
  · have e1 : ∀ σ : St, pureV σ v = pure1 σ v := by intro σ; cases v <;> first | rfl | simp [V.isAgg] at hv
    rw [e1, e1]
    exact pure1_congr fun e he => h e (refs2_refs3 (refs1_refs2 (ref0_refs1 he)))

theorem lenV_congr (h : AgrV σ τ v) : lenV σ v = lenV τ v := by
  cases v <;> first | rfl | (simp only [lenV]; rw [h _ (by simp [refs3, refs2, refs1, ref0])])

theorem loadC_congr {n : Nat} (h : AgrV σ τ v) : loadC σ v n = loadC τ v n := by
  cases v <;> first | rfl | (simp only [loadC]; rw [h _ (by simp [refs3, refs2, refs1, ref0])])

theorem sliceA_congr {n : Nat} {lo hi : Option Int} (h : AgrV σ τ v) {u : V} (hA : sliceA n v lo hi σ = some (bs, u, σ')) : σ' = σ ∧ sliceA n v lo hi τ = some (bs, u, τ) := by
  cases v <;> simp only [sliceA, reduceCtorEq] at hA ⊢
  · obtain ⟨h1, h2⟩ := cond_some hA
    rw [h1]
    simp only [cutA, Option.some.injEq, Prod.mk.injEq] at h2
    obtain ⟨rfl, rfl, rfl⟩ := h2
    exact ⟨rfl, rfl⟩
  · rw [← h _ (by simp [refs3, refs2, refs1, ref0])]
    split at hA
    · obtain ⟨h1, h2⟩ := cond_some hA
      rename_i hl
      simp only [cutA, Option.some.injEq, Prod.mk.injEq] at h2
      obtain ⟨rfl, rfl, rfl⟩ := h2
      refine ⟨rfl, ?_⟩
      simp only [h1, cond_true]
      rfl
    · cases hA
  · rw [← h _ (by simp [refs3, refs2, refs1, ref0])]
    split at hA
    · obtain ⟨h1, h2⟩ := cond_some hA
      rename_i hl
      simp only [cutA, Option.some.injEq, Prod.mk.injEq] at h2
      obtain ⟨rfl, rfl, rfl⟩ := h2
      refine ⟨rfl, ?_⟩
      simp only [h1, cond_true]
      rfl
    · cases hA

theorem binI_congr {op : BinOp} {k : IntKind} {a b : Int} (hA : binI op k a b σ = some (bs, v, σ')) : σ' = σ ∧ binI op k a b τ = some (bs, v, τ) := by
  cases op <;> simp only [binI, pureA, Option.some.injEq, Prod.mk.injEq, reduceCtorEq] at hA <;> obtain ⟨rfl, rfl, rfl⟩ := hA <;> exact ⟨rfl, rfl⟩

theorem binA_congr {op : BinOp} {t : TypeId} {x y : V} (hA : binA E op t x y σ = some (bs, v, σ')) : σ' = σ ∧ binA E op t x y τ = some (bs, v, τ) := by
  unfold binA at hA ⊢
  split at hA
  · split at hA
    · simp only [Option.some.injEq, Prod.mk.injEq] at hA; obtain ⟨rfl, rfl, rfl⟩ := hA; exact ⟨rfl, rfl⟩
    · simp only [Option.some.injEq, Prod.mk.injEq] at hA; obtain ⟨rfl, rfl, rfl⟩ := hA; exact ⟨rfl, rfl⟩
    · split at hA
      · rename_i h
        subst h
        obtain ⟨h1, h2⟩ := binI_congr (τ := τ) hA
        exact ⟨h1, by simpa using h2⟩
      · cases hA
  · split at hA <;> simp only [pureA, Option.some.injEq, Prod.mk.injEq, reduceCtorEq] at hA <;> obtain ⟨rfl, rfl, rfl⟩ := hA <;> rename_i hk <;> simp [hk, pureA]
  · split at hA <;> simp only [pureA, Option.some.injEq, Prod.mk.injEq, reduceCtorEq] at hA <;> obtain ⟨rfl, rfl, rfl⟩ := hA <;> simp [pureA]
  · split at hA <;> simp only [pureA, Option.some.injEq, Prod.mk.injEq, reduceCtorEq] at hA <;> obtain ⟨rfl, rfl, rfl⟩ := hA <;> rename_i h1 h2 <;> simp [h1, h2, pureA]
  · split at hA <;> simp only [pureA, Option.some.injEq, Prod.mk.injEq, reduceCtorEq] at hA <;> obtain ⟨rfl, rfl, rfl⟩ := hA <;> rename_i hk <;> simp [hk, pureA]
  · split at hA <;> simp only [pureA, Option.some.injEq, Prod.mk.injEq, reduceCtorEq] at hA <;> obtain ⟨rfl, rfl, rfl⟩ := hA <;> rename_i hk <;> simp [hk, pureA]
  · split at hA <;> simp only [pureA, Option.some.injEq, Prod.mk.injEq, reduceCtorEq] at hA <;> obtain ⟨rfl, rfl, rfl⟩ := hA <;> rename_i hk <;> simp [hk, pureA]
  · cases hA

theorem bound_congr {o : Option Operand} (h : ∀ x, o = some x → σ.eval x = τ.eval x) : bound σ o = bound τ o := by
  cases o with
  | none => rfl
  | some x => simp only [bound, h x rfl]

theorem intsOf_congr : ∀ {os : List Operand}, (∀ x ∈ os, σ.eval x = τ.eval x) → intsOf σ os = intsOf τ os
  | [], _ => rfl
  | [x], h => by simp only [intsOf, h x (by simp)]
  | x :: y :: os, h => by
    simp only [intsOf, h x (by simp)]
    rw [intsOf_congr fun z hz => h z (by simp only [List.mem_cons] at hz ⊢; exact .inr hz)]

theorem maps_congr {f : Operand → Operand} : ∀ {os : List Operand}, (∀ x ∈ os, σ.eval x = τ.eval x) → os.map σ.eval = os.map τ.eval
  | os, h => List.map_congr_left h

theorem parts_congr {ps : List (Nat × Operand)} (h : ∀ x ∈ ps.map (·.2), σ.eval x = τ.eval x) : (ps.map fun p => (p.1, σ.eval p.2)) = ps.map fun p => (p.1, τ.eval p.2) :=
  List.map_congr_left fun p hp => by rw [h p.2 (List.mem_map_of_mem hp)]

theorem op1_congr {op : Op} (hp : pureOp op = true) (h : Agr σ τ op) (hA : op1 E nm ty op σ = some (bs, v, σ')) (hn : ∀ x, op = .assign x → False) : σ' = σ ∧ op1 E nm ty op τ = some (bs, v, τ) := by
  cases op <;> simp only [pureOp, Bool.false_eq_true] at hp
  case move x =>
    have hx := h x (by simp [Op.operands])
    simp only [op1, pureA, Option.some.injEq, Prod.mk.injEq] at hA
    obtain ⟨rfl, rfl, rfl⟩ := hA
    exact ⟨rfl, by rw [hx.1]; rfl⟩
  case pick c x y =>
    have hc := h c (by simp [Op.operands])
    have hx := h x (by simp [Op.operands])
    have hy := h y (by simp [Op.operands])
    simp only [op1] at hA ⊢
    rw [← hc.1, ← hx.1, ← hy.1]
    split at hA
    · rename_i hb
      simp only [pureA, Option.some.injEq, Prod.mk.injEq] at hA
      obtain ⟨rfl, rfl, rfl⟩ := hA
      simp [hb, pureA]
    · cases hA
  case build t ps =>
    simp only [op1] at hA ⊢
    rw [← parts_congr (σ := σ) (τ := τ) (ps := ps.toList) fun x hx => (h x (by simpa [Op.operands] using hx)).1]
    split at hA
    · rename_i fs hk
      obtain ⟨h1, h2⟩ := cond_some hA
      split at h2
      · rename_i cs hc
        simp only [pureA, Option.some.injEq, Prod.mk.injEq] at h2
        obtain ⟨rfl, rfl, rfl⟩ := h2
        simp [hk, h1, hc, pureA]
      · cases h2
    · cases hA
  case load t x =>
    have hx := h x (by simp [Op.operands])
    simp only [op1] at hA ⊢
    rw [← hx.1, ← loadC_congr hx.2]
    split at hA
    · rename_i cs hc
      simp only [pureA, Option.some.injEq, Prod.mk.injEq] at hA
      obtain ⟨rfl, rfl, rfl⟩ := hA
      simp [hc, pureA]
    · cases hA
  case nilCheck x =>
    have hx := h x (by simp [Op.operands])
    simp only [op1] at hA ⊢
    rw [← hx.1]
    split at hA <;> simp only [pureA, Option.some.injEq, Prod.mk.injEq, reduceCtorEq] at hA <;> obtain ⟨rfl, rfl, rfl⟩ := hA <;> rename_i hk <;> simp [hk, pureA]
  case binOp op t x y t2 =>
    have hx := h x (by simp [Op.operands])
    have hy := h y (by simp [Op.operands])
    simp only [op1] at hA ⊢
    rw [← hx.1, ← hy.1]
    exact binA_congr hA
  case unOp op t x =>
    have hx := h x (by simp [Op.operands])
    simp only [op1] at hA ⊢
    rw [← hx.1]
    split at hA <;> simp only [pureA, Option.some.injEq, Prod.mk.injEq, reduceCtorEq] at hA <;> obtain ⟨rfl, rfl, rfl⟩ := hA <;> rename_i hk <;> simp [hk, pureA]
  case convert s d x =>
    have hx := h x (by simp [Op.operands])
    simp only [op1] at hA ⊢
    rw [← hx.1]
    split at hA <;> simp only [pureA, Option.some.injEq, Prod.mk.injEq, reduceCtorEq] at hA <;> obtain ⟨rfl, rfl, rfl⟩ := hA <;> rename_i h1 h2 h3 <;> simp [h1, h2, h3, pureA]
  case makeFunc f fst caps =>
    cases f with
    | func f =>
      have hc : caps.toList.map σ.eval = caps.toList.map τ.eval := List.map_congr_left fun x hx => (h x (by simp only [Op.operands, Array.toList_append, List.mem_append]; exact .inr hx)).1
      simp only [op1] at hA ⊢
      rw [← hc]
      split at hA
      · rename_i hf
        obtain ⟨h1, h2⟩ := cond_some hA
        simp only [pureA, Option.some.injEq, Prod.mk.injEq] at h2
        obtain ⟨rfl, rfl, rfl⟩ := h2
        simp [hf, pureA, h1]
      · cases hA
    | _ => simp only [op1, reduceCtorEq] at hA
  case slice t x lo hi mx =>
    cases mx with
    | some m => exact (by cases hp)
    | none =>
    have hx := h x (by simp [Op.operands])
    have hlo : bound σ lo = bound τ lo := bound_congr fun y hy => (h y (by subst hy; simp [Op.operands])).1
    have hhi : bound σ hi = bound τ hi := bound_congr fun y hy => (h y (by subst hy; simp [Op.operands])).1
    simp only [op1] at hA ⊢
    rw [← hx.1, ← hlo, ← hhi]
    split at hA
    · rename_i h1 h2 h3
      obtain ⟨e1, e2⟩ := sliceA_congr hx.2 hA
      simp [h1, h2, h3, e1, e2]
    · rename_i h1 h2 h3
      split at hA
      · rename_i s hs
        simp only [sliceStr, Option.some.injEq, Prod.mk.injEq] at hA
        obtain ⟨rfl, rfl, rfl⟩ := hA
        simp [h1, h2, h3, hs, sliceStr]
      · cases hA
    · rename_i h4; cases h4
    · rename_i h4; cases h4
    · cases hA
  case fieldAddr s x f =>
    have hx := h x (by simp [Op.operands])
    simp only [op1] at hA ⊢
    rw [← hx.1]
    split at hA
    · rename_i fs e i oo hk hv
      have hl := hx.2 e (by rw [hv]; simp [refs3, refs2, refs1, ref0])
      split at hA
      rotate_left
      · cases hA
      rename_i off ft hf
      obtain ⟨h1, h2⟩ := cond_some hA
      split at h2
      · rename_i t l hlk
        obtain ⟨h3, h4⟩ := cond_some h2
        simp only [pureA, Option.some.injEq, Prod.mk.injEq] at h4
        obtain ⟨rfl, rfl, rfl⟩ := h4
        rw [hlk] at hl
        simp only [hk, hv, hf, h1, ← hl, h3, cond_true, pureA, and_self]
      · rename_i cs hlk
        simp only [pureA, Option.some.injEq, Prod.mk.injEq] at h2
        obtain ⟨rfl, rfl, rfl⟩ := h2
        rw [hlk] at hl
        simp only [hk, hv, hf, h1, ← hl, cond_true, pureA, and_self]
      · cases h2
    · rename_i hk hv
      split at hA
      rotate_left
      · cases hA
      rename_i off ft hf
      obtain ⟨h1, h2⟩ := cond_some hA
      simp only [pureA, Option.some.injEq, Prod.mk.injEq] at h2
      obtain ⟨rfl, rfl, rfl⟩ := h2
      simp only [hk, hv, hf, h1, cond_true, pureA, and_self]
    · cases hA
  case field t x f =>
    have hx := h x (by simp [Op.operands])
    simp only [op1] at hA ⊢
    rw [← hx.1]
    split at hA
    · rename_i hk hv
      split at hA
      rotate_left
      · cases hA
      rename_i off ft hf
      obtain ⟨h1, h2⟩ := cond_some hA
      simp only [pureA, Option.some.injEq, Prod.mk.injEq] at h2
      obtain ⟨rfl, rfl, rfl⟩ := h2
      simp only [hk, hv, hf, h1, cond_true, pureA, and_self]
    · cases hA
  case indexAddr t x ix =>
    have hx := h x (by simp [Op.operands])
    have hi := h ix (by simp [Op.operands])
    simp only [op1] at hA ⊢
    rw [← hx.1, ← hi.1]
    split at hA
    · rename_i e k n hk hn
      split at hA
      · rename_i te l hv
        obtain ⟨h1, h2⟩ := cond_some hA
        simp only [Option.some.injEq, Prod.mk.injEq] at h2
        obtain ⟨rfl, rfl, rfl⟩ := h2
        simp only [hk, hn, hv, h1, cond_true, and_self]
      · rename_i en hv
        have hl := hx.2 en (by rw [hv]; simp [refs3, refs2, refs1, ref0])
        split at hA
        · rename_i te l hlk
          obtain ⟨h1, h2⟩ := cond_some hA
          simp only [Option.some.injEq, Prod.mk.injEq] at h2
          obtain ⟨rfl, rfl, rfl⟩ := h2
          rw [hlk] at hl
          simp only [hk, hn, hv, ← hl, h1, cond_true, and_self]
        · cases hA
      · rename_i en oo len hv
        have hl := hx.2 en (by rw [hv]; simp [refs3, refs2, refs1, ref0])
        split at hA
        · rename_i te l hlk
          obtain ⟨h1, h2⟩ := cond_some hA
          simp only [Option.some.injEq, Prod.mk.injEq] at h2
          obtain ⟨rfl, rfl, rfl⟩ := h2
          rw [hlk] at hl
          simp only [hk, hn, hv, ← hl, h1, cond_true, and_self]
        · cases hA
      · cases hA
    · rename_i len e k n hk hn
      split at hA
      rotate_left
      · cases hA
      rename_i en i oo hv
      have hl := hx.2 en (by rw [hv]; simp [refs3, refs2, refs1, ref0])
      obtain ⟨h1, h2⟩ := cond_some hA
      split at h2
      · rename_i te l hlk
        obtain ⟨h3, h4⟩ := cond_some h2
        simp only [Option.some.injEq, Prod.mk.injEq] at h4
        obtain ⟨rfl, rfl, rfl⟩ := h4
        rw [hlk] at hl
        simp only [hk, hn, hv, ← hl, h1, h3, cond_true, and_self]
      · rename_i cs hlk
        simp only [Option.some.injEq, Prod.mk.injEq] at h2
        obtain ⟨rfl, rfl, rfl⟩ := h2
        rw [hlk] at hl
        simp only [hk, hn, hv, ← hl, h1, cond_true, and_self]
      · cases h2
    · cases hA
  case index t x ix =>
    have hx := h x (by simp [Op.operands])
    have hi := h ix (by simp [Op.operands])
    simp only [op1] at hA ⊢
    rw [← hx.1, ← hi.1]
    split at hA
    · rename_i h1 h2 h3
      simp only [Option.some.injEq, Prod.mk.injEq] at hA
      obtain ⟨rfl, rfl, rfl⟩ := hA
      simp only [h1, h2, h3, and_self]
    · cases hA
  case extract x i =>
    have hx := h x (by simp [Op.operands])
    simp only [op1] at hA ⊢
    rw [← hx.1]
    split at hA
    · rename_i vs hv
      split at hA
      · rename_i u hu
        simp only [pureA, Option.some.injEq, Prod.mk.injEq] at hA
        obtain ⟨rfl, rfl, rfl⟩ := hA
        simp only [hv, hu, pureA, and_self]
      · cases hA
    · cases hA
  case call c =>
    have hargs : ∀ x ∈ c.args.toList, σ.eval x = τ.eval x ∧ AgrV σ τ (σ.eval x) := fun x hx => h x (by
      simp only [Op.operands, Call.operands, Array.toList_append, List.mem_append]; exact .inr hx)
    simp only [op1] at hA ⊢
    split at hA
    · rename_i hc
      split at hA
      rotate_left
      · cases hA
      rename_i t x ht hxs
      have hx := hargs x (by rw [hxs]; simp)
      split at hA
      · rename_i e n hk hl
        split at hA
        · cases hA
        · rename_i hns
          simp only [pureA, Option.some.injEq, Prod.mk.injEq] at hA
          obtain ⟨rfl, rfl, rfl⟩ := hA
          refine ⟨rfl, ?_⟩
          simp only [hc, ht, hxs, hk, ← hx.1, ← lenV_congr hx.2, hl]
          generalize σ.eval x = u at hns
          cases u <;> first | rfl | exact absurd rfl (hns _)
      · rename_i n hk hl
        split at hA
        · rename_i s hs
          simp only [pureA, Option.some.injEq, Prod.mk.injEq] at hA
          obtain ⟨rfl, rfl, rfl⟩ := hA
          refine ⟨rfl, ?_⟩
          rw [hs] at hl
          simp only [hc, ht, hxs, hk, ← hx.1, hs]
          simp only [lenV] at hl ⊢
          injection hl with hl
          rw [hl]; rfl
        · cases hA
      · cases hA
    · rename_i hc; simp [hc] at hp
    · rename_i hc
      rw [← intsOf_congr fun x hx => (hargs x hx).1]
      split at hA
      · rename_i k n ns hi
        simp only [pureA, Option.some.injEq, Prod.mk.injEq] at hA
        obtain ⟨rfl, rfl, rfl⟩ := hA
        simp only [hc, hi, pureA, and_self]
      · cases hA
    · rename_i hc
      rw [← intsOf_congr fun x hx => (hargs x hx).1]
      split at hA
      · rename_i k n ns hi
        simp only [pureA, Option.some.injEq, Prod.mk.injEq] at hA
        obtain ⟨rfl, rfl, rfl⟩ := hA
        simp only [hc, hi, pureA, and_self]
      · cases hA
    · cases hA

end
end Go.Proofs.Ytiboikgoaihccaa.R
