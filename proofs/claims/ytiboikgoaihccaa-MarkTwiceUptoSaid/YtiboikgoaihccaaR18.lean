/-
All operations that call nothing.
-/
import Derived.Test.YtiboikgoaihccaaR17
namespace Go.Proofs.Ytiboikgoaihccaa.R
open Go.RowKit
set_option linter.unusedVariables false

section
variable {P : Program} {E : Env} {C : Frm} {β : Nat → Option Loc} {σ σ' : St} {a : Act} {as : List (Array Value)} {w : World} {o : Oper} {nm : Nat} {ty : TypeId} {bs : List Bool} {v : V}

theorem V3.plain0 {S : Cx} {v : V} {x : Value} (h : V3 S v x) (hp : plain v = true) : V0 S v x := by
  cases v <;> simp only [plain, Bool.false_eq_true] at hp <;> exact h

theorem cond_some {α : Type} {b : Bool} {x : Option α} {y : α} (h : (bif b then x else none) = some y) : b = true ∧ x = some y := by
  cases b
  · cases h
  · exact ⟨rfl, h⟩

theorem op1_sound (hT : TtOk P E.tt) (h : Sim C β σ (a.tmps :: as) w) (hA : op1 E nm o.type o.op σ = some (bs, v, σ')) (hbs : ∀ b ∈ bs, b = true) : Done P C o a as w v σ' := by
  cases hop : o.op <;> rw [hop] at hA
  case makeFunc f fst caps =>
    cases f with
    | func f =>
      simp only [op1] at hA
      split at hA
      rotate_left
      · cases hA
      rename_i hf
      obtain ⟨hs, hA⟩ := cond_some hA
      simp only [pureA, Option.some.injEq, Prod.mk.injEq] at hA
      obtain ⟨rfl, rfl, rfl⟩ := hA
      refine done_makeFunc h hop hf fun x hx => ?_
      refine (h.eval x).plain0 ?_
      rw [List.all_eq_true] at hs
      exact hs _ (List.mem_map_of_mem hx)
    | _ => simp only [op1, reduceCtorEq] at hA
  all_goals simp only [op1, reduceCtorEq] at hA
  case move x =>
    simp only [pureA, Option.some.injEq, Prod.mk.injEq] at hA
    obtain ⟨rfl, rfl, rfl⟩ := hA
    exact done_move h (.inl hop)
  case assign x =>
    split at hA
    · rename_i hx
      split at hA
      · split at hA
        · simp only [pureA, Option.some.injEq, Prod.mk.injEq] at hA
          obtain ⟨rfl, rfl, rfl⟩ := hA
          exact done_nil h hop hx _
        · simp only [pureA, Option.some.injEq, Prod.mk.injEq] at hA
          obtain ⟨rfl, rfl, rfl⟩ := hA
          rw [← hx]
          exact done_move h (.inr hop)
      · simp only [pureA, Option.some.injEq, Prod.mk.injEq] at hA
        obtain ⟨rfl, rfl, rfl⟩ := hA
        rw [← hx]
        exact done_move h (.inr hop)
    · simp only [pureA, Option.some.injEq, Prod.mk.injEq] at hA
      obtain ⟨rfl, rfl, rfl⟩ := hA
      exact done_move h (.inr hop)
  case pick c x y =>
    split at hA
    · rename_i b hc
      simp only [pureA, Option.some.injEq, Prod.mk.injEq] at hA
      obtain ⟨rfl, rfl, rfl⟩ := hA
      exact done_pick h hop hc
    · cases hA
  case alloc t =>
    obtain ⟨hs, hA⟩ := cond_some hA
    simp only [pureA, Option.some.injEq, Prod.mk.injEq] at hA
    obtain ⟨rfl, rfl, rfl⟩ := hA
    exact done_alloc hT h hop (by have : 0 < (E.tt t).size := by simpa using hs
                                  omega)
  case box t x =>
    obtain ⟨hs, hA⟩ := cond_some hA
    simp only [pureA, Option.some.injEq, Prod.mk.injEq] at hA
    obtain ⟨rfl, rfl, rfl⟩ := hA
    exact done_opBox h hop hs
  case build t ps =>
    split at hA
    · rename_i fs hk
      obtain ⟨hs, hA⟩ := cond_some hA
      split at hA
      · rename_i cs hc
        simp only [pureA, Option.some.injEq, Prod.mk.injEq] at hA
        obtain ⟨rfl, rfl, rfl⟩ := hA
        exact done_build hT h hop hk (by have : 0 < (E.tt t).size := by simpa using hs
                                         omega) hc
      · cases hA
    · cases hA
  case buildSlice t len ps =>
    split at hA
    · rename_i e hk
      split at hA
      · rename_i te hty
        split at hA
        · rename_i cs hc
          split at hA
          · rename_i l hd
            obtain ⟨hs, hA⟩ := cond_some hA
            simp only [pureA, Option.some.injEq, Prod.mk.injEq] at hA
            obtain ⟨rfl, rfl, rfl⟩ := hA
            exact done_buildSlice hT h hop hk hty hc hd (by simpa using hs)
          · cases hA
        · cases hA
      · cases hA
    · cases hA
  case load t x =>
    split at hA
    · rename_i cs hc
      simp only [pureA, Option.some.injEq, Prod.mk.injEq] at hA
      obtain ⟨rfl, rfl, rfl⟩ := hA
      exact done_load hT h hop hc
    · cases hA
  case store t x y =>
    split at hA
    · rename_i cs hc
      simp only [pureA, Option.some.injEq, Prod.mk.injEq] at hA
      obtain ⟨rfl, rfl, rfl⟩ := hA
      exact done_store hT h hop hc
    · cases hA
  case nilCheck x =>
    split at hA <;> simp only [pureA, Option.some.injEq, Prod.mk.injEq, reduceCtorEq] at hA
    · rename_i hx
      obtain ⟨rfl, rfl, rfl⟩ := hA
      rw [← hx]
      exact done_nilCheck h hop (.inl ⟨_, _, _, hx⟩)
    · rename_i hx
      obtain ⟨rfl, rfl, rfl⟩ := hA
      rw [← hx]
      exact done_nilCheck h hop (.inr (.inl ⟨_, hx⟩))
    · rename_i hx
      obtain ⟨rfl, rfl, rfl⟩ := hA
      rw [← hx]
      exact done_nilCheck h hop (.inr (.inr ⟨_, _, hx⟩))
  case binOp => exact done_binOp hT h hop hA hbs
  case unOp op t x =>
    split at hA <;> simp only [pureA, Option.some.injEq, Prod.mk.injEq, reduceCtorEq] at hA
    · rename_i hx
      obtain ⟨rfl, rfl, rfl⟩ := hA
      exact (done_unOp h hop).1 _ rfl hx
    · rename_i hx
      obtain ⟨rfl, rfl, rfl⟩ := hA
      exact (done_unOp h hop).2 _ _ rfl hx
  case convert s d x =>
    split at hA
    · rename_i hs hd hx
      simp only [pureA, Option.some.injEq, Prod.mk.injEq] at hA
      obtain ⟨rfl, rfl, rfl⟩ := hA
      exact done_convert hT h hop hd ⟨_, hT.int s _ hs⟩ hx
    · cases hA
  case makeSlice t x y =>
    split at hA
    · rename_i hk hx hy
      split at hA
      · rename_i te hty
        simp only [Option.some.injEq, Prod.mk.injEq] at hA
        obtain ⟨rfl, rfl, rfl⟩ := hA
        refine done_makeSlice hT h hop hk hty hx hy ?_ ?_
        · have := hbs _ (List.mem_cons_self ..)
          simpa using this
        · have := hbs _ (List.mem_cons_of_mem _ (List.mem_cons_self ..))
          simpa using this
      · cases hA
    · cases hA
  case slice t x lo hi mx =>
    split at hA
    · rename_i hk hlo hhi
      exact done_slice hT h hop hk hlo hhi hA hbs
    · rename_i hk hlo hhi
      split at hA
      · rename_i s hx
        exact done_sliceStr hT h hop hk hlo hhi hx hA hbs
      · cases hA
    · rename_i hk hlo hhi
      split at hA
      · rename_i c hm
        exact done_clip hT h hop hk hlo hhi hm hA hbs
      · cases hA
    · rename_i hk hlo hhi
      split at hA
      · rename_i te c hty hm
        obtain ⟨hc, hA⟩ := cond_some hA
        simp only [pureA, Option.some.injEq, Prod.mk.injEq] at hA
        obtain ⟨rfl, rfl, rfl⟩ := hA
        simp only [Bool.and_eq_true, beq_iff_eq] at hc
        obtain ⟨h1, h2, h3, h4⟩ := hc
        subst h3
        subst h4
        exact done_slice0 hT h hop hk hty hlo hhi hm h1 h2
      · cases hA
    · cases hA
  case fieldAddr s x f =>
    split at hA
    · rename_i hk hx
      split at hA
      rotate_left
      · cases hA
      rename_i off ft hf
      obtain ⟨hs, hA⟩ := cond_some hA
      split at hA
      · rename_i t l hl
        obtain ⟨hs2, hA⟩ := cond_some hA
        simp only [pureA, Option.some.injEq, Prod.mk.injEq] at hA
        obtain ⟨rfl, rfl, rfl⟩ := hA
        refine done_fieldAddr_ptr hT h hop hk hf (by simpa using hs) hx hl fun t' l' he => ?_
        injection he with h1 h2
        subst h1
        simpa using hs2
      · rename_i cs hl
        simp only [pureA, Option.some.injEq, Prod.mk.injEq] at hA
        obtain ⟨rfl, rfl, rfl⟩ := hA
        exact done_fieldAddr_ptr hT h hop hk hf (by simpa using hs) hx hl fun t' l' he => by cases he
      · cases hA
    · rename_i hk hx
      split at hA
      rotate_left
      · cases hA
      rename_i off ft hf
      obtain ⟨hs, hA⟩ := cond_some hA
      simp only [pureA, Option.some.injEq, Prod.mk.injEq] at hA
      obtain ⟨rfl, rfl, rfl⟩ := hA
      exact done_fieldAddr_rop hT h hop hk hf (by simpa using hs) hx
    · cases hA
  case field t x f =>
    split at hA
    · rename_i hk hx
      split at hA
      rotate_left
      · cases hA
      rename_i off ft hf
      obtain ⟨hs, hA⟩ := cond_some hA
      simp only [pureA, Option.some.injEq, Prod.mk.injEq] at hA
      obtain ⟨rfl, rfl, rfl⟩ := hA
      simp only [Bool.and_eq_true, Nat.ble_eq, Nat.blt_eq] at hs
      exact done_field hT h hop hk hf hs.2 hx hs.1
    · cases hA
  case indexAddr t x ix =>
    split at hA
    · rename_i e k n hk hi
      split at hA
      · rename_i te l hx
        obtain ⟨hs, hA⟩ := cond_some hA
        simp only [Option.some.injEq, Prod.mk.injEq] at hA
        obtain ⟨rfl, rfl, rfl⟩ := hA
        refine done_indexAddr_ro hT h hop hk hx hi (by simpa using hs) ?_
        have := hbs _ (List.mem_cons_self ..)
        simpa using this
      · rename_i en hx
        split at hA
        · rename_i te l hl
          obtain ⟨hs, hA⟩ := cond_some hA
          simp only [Option.some.injEq, Prod.mk.injEq] at hA
          obtain ⟨rfl, rfl, rfl⟩ := hA
          have hex := h.eval x
          rw [hx] at hex
          obtain ⟨t1, l1, hl1, hsl⟩ := hex
          have := hl.symm.trans hl1
          injection this with this
          injection this with h1 h2
          subst h1
          have h2 := eq_of_heq h2
          subst h2
          have := done_indexAddr_own (off := 0) (len := l.length) (n := n) hT h hop hk hl (by omega) hsl hi (by simpa using hs) (by
            have := hbs _ (List.mem_cons_self ..)
            simpa using this)
          rw [Nat.zero_add] at this
          exact this
        · cases hA
      · rename_i en oo len hx
        split at hA
        · rename_i te l hl
          obtain ⟨hs, hA⟩ := cond_some hA
          simp only [Option.some.injEq, Prod.mk.injEq] at hA
          obtain ⟨rfl, rfl, rfl⟩ := hA
          have hex := h.eval x
          rw [hx] at hex
          obtain ⟨t1, l1, hl1, ho, hsl⟩ := hex
          have := hl.symm.trans hl1
          injection this with this
          injection this with h1 h2
          subst h1
          have h2 := eq_of_heq h2
          subst h2
          exact done_indexAddr_own hT h hop hk hl ho hsl.1 hi (by simpa using hs) (by
            have := hbs _ (List.mem_cons_self ..)
            simpa using this)
        · cases hA
      · cases hA
    · rename_i len e k n hk hi
      split at hA
      rotate_left
      · cases hA
      rename_i en i oo hx
      obtain ⟨hs, hA⟩ := cond_some hA
      split at hA
      · rename_i te l hl
        obtain ⟨hs2, hA⟩ := cond_some hA
        simp only [Option.some.injEq, Prod.mk.injEq] at hA
        obtain ⟨rfl, rfl, rfl⟩ := hA
        refine done_indexAddr_arr hT h hop hk (by simpa using hs) hx hl hi ?_ fun t' l' he => ?_
        · have := hbs _ (List.mem_cons_self ..)
          simpa using this
        · injection he with h1 h2
          subst h1
          simpa using hs2
      · rename_i cs hl
        simp only [Option.some.injEq, Prod.mk.injEq] at hA
        obtain ⟨rfl, rfl, rfl⟩ := hA
        refine done_indexAddr_arr hT h hop hk (by simpa using hs) hx hl hi ?_ fun t' l' he => by cases he
        have := hbs _ (List.mem_cons_self ..)
        simpa using this
      · cases hA
    · cases hA
  case index t x ix =>
    split at hA
    · rename_i hk hx hi
      simp only [Option.some.injEq, Prod.mk.injEq] at hA
      obtain ⟨rfl, rfl, rfl⟩ := hA
      refine done_index hT h hop hk hx hi ?_
      have := hbs _ (List.mem_cons_self ..)
      simpa using this
    · cases hA
  case extract x i =>
    split at hA
    · rename_i vs hx
      split at hA
      · rename_i u hu
        simp only [pureA, Option.some.injEq, Prod.mk.injEq] at hA
        obtain ⟨rfl, rfl, rfl⟩ := hA
        exact done_extract h hop hx hu
      · cases hA
    · cases hA
  case call c =>
    split at hA
    · rename_i hc
      split at hA
      rotate_left
      · cases hA
      rename_i t x ht hargs
      split at hA
      · rename_i e n hk hl
        split at hA
        · cases hA
        · rename_i hns
          simp only [pureA, Option.some.injEq, Prod.mk.injEq] at hA
          obtain ⟨rfl, rfl, rfl⟩ := hA
          exact done_len hT h hop hc ht hargs hl (.inl ⟨e, hk, fun s hs => hns s hs⟩)
      · rename_i n hk hl
        split at hA
        · rename_i s hs
          simp only [pureA, Option.some.injEq, Prod.mk.injEq] at hA
          obtain ⟨rfl, rfl, rfl⟩ := hA
          exact done_len hT h hop hc ht hargs hl (.inr ⟨hk, s, hs⟩)
        · cases hA
      · cases hA
    · rename_i hc
      split at hA
      rotate_left
      · cases hA
      rename_i t t2 s x ht hargs
      split at hA
      · rename_i e2 hk2
        exact done_append hT h hop hc ht hargs hk2 hA hbs
      · cases hA
    · rename_i hc
      split at hA
      · rename_i k n ns hi
        simp only [pureA, Option.some.injEq, Prod.mk.injEq] at hA
        obtain ⟨rfl, rfl, rfl⟩ := hA
        exact done_min h hop hc hi
      · cases hA
    · rename_i hc
      split at hA
      · rename_i k n ns hi
        simp only [pureA, Option.some.injEq, Prod.mk.injEq] at hA
        obtain ⟨rfl, rfl, rfl⟩ := hA
        exact done_max h hop hc hi
      · cases hA
    · cases hA

end
end Go.Proofs.Ytiboikgoaihccaa.R
