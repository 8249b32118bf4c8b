/-
What a law's arguments are: data of the evaluator's types.
-/
import Derived.Test.YtiboikgoaihccaaR33
import GoSem.ClaimChange
import Derived.Carry
namespace Go.Proofs.Ytiboikgoaihccaa.R
open Go.RowKit
set_option linter.unusedVariables false

/-- Fields lie one behind the other. -/
def layFs (P : Program) (tot : Nat) : Nat → List Field → Bool
  | o, [] => o == tot
  | o, f :: fs => f.offset == o && layFs P tot (o + P.cellsOf f.type) fs

/-- Bytes that a value takes at least. -/
def Ty.b : Ty → Nat
  | .int k => k.bits / 8
  | .bool => 1
  | .str => 16
  | .list _ => 24
  | .pair a b => a.b + b.b
  | .one a => a.b

/-- The layout of a type is flat. -/
def lay (P : Program) : Nat → TypeId → Bool
  | 0, _ => false
  | n + 1, t => match P.underlying t with
    | some (.slice e) => lay P n e && (match tyOf P n e with
      | some τ => τ.size == P.cellsOf e && τ.b.ble (P.bytesOf e)
      | none => false)
    | some (.struct F) => layFs P (P.cellsOf t) 0 F.toList && F.toList.all fun f => lay P n f.type && (match tyOf P n f.type with
      | some τ => τ.size == P.cellsOf f.type
      | none => false)
    | _ => true

/-- What a row's weights grant of data. -/
def SzD : (t : Ty) → t.den → Prop
  | .int _, _ => True
  | .bool, _ => True
  | .str, s => s.size ≤ reachBytes
  | .list a, l => l.length * a.b ≤ reachBytes ∧ ∀ x ∈ l, SzD a x
  | .pair a b, x => SzD a x.1 ∧ SzD b x.2
  | .one a, x => SzD a x

/-- Rows of data are as long as what was read. -/
def LD {H : Type} : (t : Ty) → t.den → DataW H → Prop
  | .list a, l, d => (l = [] ∧ d = .nil) ∨ ∃ es sp, d = .slice es sp ∧ es.length = l.length ∧ ∀ (i : Nat) (x : a.den) (y : DataW H), l[i]? = some x → es[i]? = some y → LD a x y
  | _, _, _ => True

/-- What the reading of arguments grants of data. -/
def WfD : (t : Ty) → t.den → Prop
  | .int k, n => k.min ≤ n ∧ n ≤ k.max
  | .bool, _ => True
  | .str, s => s.size ≤ maxLen
  | .list a, l => l.length ≤ maxLen ∧ ∀ x ∈ l, WfD a x
  | .pair a b, x => WfD a x.1 ∧ WfD b x.2
  | .one a, x => WfD a x

theorem mapM_at {α β : Type} {f : α → Option β} : ∀ {l : List α} {r : List β}, l.mapM f = some r → ∀ {j : Nat} {x : α}, l[j]? = some x → ∃ y, r[j]? = some y ∧ f x = some y
  | [], r, h, j, x, hx => by simp at hx
  | a :: l, r, h, j, x, hx => by
    simp only [List.mapM_cons, Option.bind_eq_bind, Option.bind_eq_some_iff, Option.pure_def, Option.some.injEq] at h
    obtain ⟨b, hb, bs, hbs, rfl⟩ := h
    cases j with
    | zero => simp only [List.getElem?_cons_zero, Option.some.injEq] at hx; subst hx; exact ⟨b, rfl, hb⟩
    | succ j => simpa using mapM_at hbs (j := j) (by simpa using hx)

theorem mapM_len {α β : Type} {f : α → Option β} : ∀ {l : List α} {r : List β}, l.mapM f = some r → r.length = l.length
  | [], r, h => by simp at h; subst h; rfl
  | a :: l, r, h => by
    simp only [List.mapM_cons, Option.bind_eq_bind, Option.bind_eq_some_iff, Option.pure_def, Option.some.injEq] at h
    obtain ⟨b, hb, bs, hbs, rfl⟩ := h
    simp [mapM_len hbs]

theorem exists_list {α : Type} {Q : Nat → α → Prop} : ∀ (n : Nat), (∀ i, i < n → ∃ x, Q i x) → ∃ l : List α, l.length = n ∧ ∀ (i : Nat) x, l[i]? = some x → Q i x
  | 0, _ => ⟨[], rfl, fun i x h => by simp at h⟩
  | n + 1, h => by
    obtain ⟨l, hl, hq⟩ := exists_list n fun i hi => h i (by omega)
    obtain ⟨x, hx⟩ := h n (by omega)
    refine ⟨l ++ [x], by simp [hl], fun i y hy => ?_⟩
    by_cases hi : i < n
    · rw [List.getElem?_append_left (by omega)] at hy
      exact hq i y hy
    · rw [List.getElem?_append_right (by omega)] at hy
      have : i = n := by
        have := (List.getElem?_eq_some_iff.1 hy).1
        simp at this
        omega
      subst this
      rw [hl, Nat.sub_self] at hy
      simp only [List.getElem?_cons_zero, Option.some.injEq] at hy
      subst hy
      exact hx

theorem cell_block_lt {w : World} {a : Addr} {z : Value} (h : w.cell? a = some z) : a.block < w.heap.size := by
  rcases Nat.lt_or_ge a.block w.heap.size with h1 | h1
  · exact h1
  · exfalso
    unfold World.cell? at h
    rw [Array.getElem?_eq_none h1] at h
    cases h

section
variable {H : Type} {enc' : TypeId × Value → H} {P : Program} {W : World} {base : Nat} {spare : Nat → Bool} {held : Bool}

/-- What is read of a type is data of it. -/
def TrodAt (enc' : TypeId × Value → H) (P : Program) (W : World) (base : Nat) (spare : Nat → Bool) (held : Bool) (t : TypeId) (τ : Ty) : Prop :=
  ∀ (fuel : Nat) (cs : List Value) (z : DataW H × List MemPlace), DataW.trod enc' P W base spare held fuel t cs = some z → ∃ x : τ.den, DRel (allB W) W τ x cs ∧ WfD τ x ∧ ((z.1.weights P t).all (· ≤ reachBytes) = true → SzD τ x) ∧ LD τ x z.1

theorem weightsAll_mem {e : TypeId} {d : DataW H} {n : Nat} : ∀ {l : List (DataW H)}, d ∈ l → n ∈ d.weights P e → n ∈ DataW.weightsAll P e l
  | [], h, _ => by simp at h
  | x :: l, h, hn => by
    simp only [DataW.weightsAll, List.mem_append]
    rcases List.mem_cons.1 h with rfl | h
    · exact .inl hn
    · exact .inr (weightsAll_mem h hn)

theorem trod_tail {tot : Nat} : ∀ (fs : List Field) (o : Nat) (τs : List (Option Ty)) (τ : Ty) (cs : List Value) (fuel : Nat) (zs : List (DataW H × List MemPlace)), All2 (fun f (q : Option Ty) => ∀ σ, q = some σ → TrodAt enc' P W base spare held f.type σ ∧ σ.size = P.cellsOf f.type) fs τs →
    tysTail τs = some τ → layFs P tot o fs = true → cs.length = tot → (fs.mapM fun f => DataW.trod enc' P W base spare held fuel f.type ((cs.drop f.offset).take (P.cellsOf f.type))) = some zs → ∃ x : τ.den, DRel (allB W) W τ x (cs.drop o) ∧ WfD τ x ∧ ((DataW.weightsEach P (fs.map (·.type)) (zs.map (·.1))).all (· ≤ reachBytes) = true → SzD τ x)
  | [], o, τs, τ, cs, fuel, zs, ha, ht, _, _, _ => by
    cases τs with
    | nil => simp [tysTail] at ht
    | cons q τs => exact ha.elim
  | f :: fs, o, τs, τ, cs, fuel, zs, ha, ht, hl, hc, hm => by
    cases τs with
    | nil => exact ha.elim
    | cons q τs =>
      simp only [layFs, Bool.and_eq_true, beq_iff_eq] at hl
      obtain ⟨ho, hl⟩ := hl
      simp only [List.mapM_cons, Option.bind_eq_bind, Option.bind_eq_some_iff, Option.pure_def, Option.some.injEq] at hm
      obtain ⟨z, hz, zs', hzs, rfl⟩ := hm
      rw [ho] at hz
      cases q with
      | none => cases τs <;> simp [tysTail] at ht
      | some σ =>
        obtain ⟨hσ, hsz⟩ := ha.1 σ rfl
        obtain ⟨x, hx, hwx, hsx, _⟩ := hσ fuel _ z hz
        cases τs with
        | nil =>
          simp only [tysTail, Option.some.injEq] at ht
          subst ht
          cases fs with
          | cons f2 fs => exact ha.2.elim
          | nil =>
            simp only [layFs, beq_iff_eq] at hl
            have : (cs.drop o).take (P.cellsOf f.type) = cs.drop o := by
              apply List.take_of_length_le
              simp; omega
            rw [this] at hx
            refine ⟨x, hx, hwx, fun h => hsx ?_⟩
            simp only [List.map_cons, DataW.weightsEach, List.all_append, Bool.and_eq_true] at h
            exact h.1
        | cons q2 τs =>
          simp only [tysTail, Option.map_eq_some_iff] at ht
          obtain ⟨ρ, hρ, rfl⟩ := ht
          obtain ⟨y, hy, hwy, hsy⟩ := trod_tail fs (o + P.cellsOf f.type) (q2 :: τs) ρ cs fuel zs' ha.2 hρ hl hc hzs
          refine ⟨(x, y), ⟨_, _, ?_, hx, hy⟩, ⟨hwx, hwy⟩, fun h => ?_⟩
          · rw [← List.drop_drop, List.take_append_drop]
          · simp only [List.map_cons, DataW.weightsEach, List.all_append, Bool.and_eq_true] at h
            exact ⟨hsx h.1, hsy h.2⟩

theorem trod_rel : ∀ (n : Nat) (t : TypeId) (τ : Ty), tyOf P n t = some τ → lay P n t = true → TrodAt enc' P W base spare held t τ
  | 0, t, τ, h, _ => by simp [tyOf] at h
  | n + 1, t, τ, h, hl => by
    intro fuel cs z hz
    cases fuel with
    | zero => simp [DataW.trod] at hz
    | succ fuel =>
      simp only [tyOf] at h
      cases hu : P.underlying t with
      | none => rw [hu] at h; cases h
      | some d =>
        rw [hu] at h
        cases d <;> simp only [reduceCtorEq] at h
        case bool =>
          injection h with h
          subst h
          rcases cs with _ | ⟨c, _ | ⟨c2, cs⟩⟩ <;> (try (simp [DataW.trod, hu] at hz; done))
          cases c <;> (try (simp [DataW.trod, hu] at hz; done))
          exact ⟨_, rfl, trivial, fun _ => trivial, trivial⟩
        case int k =>
          injection h with h
          subst h
          rcases cs with _ | ⟨c, _ | ⟨c2, cs⟩⟩ <;> (try (simp [DataW.trod, hu] at hz; done))
          cases c <;> (try (simp [DataW.trod, hu] at hz; done))
          rename_i k1 m
          simp only [DataW.trod, hu] at hz
          split at hz
          · rename_i hk
            obtain ⟨rfl, hw⟩ := hk
            refine ⟨m, rfl, ?_, fun _ => trivial, trivial⟩
            simpa [Lit.wf, WfD] using hw
          · cases hz
        case string =>
          injection h with h
          subst h
          rcases cs with _ | ⟨c, _ | ⟨c2, cs⟩⟩ <;> (try (simp [DataW.trod, hu] at hz; done))
          cases c <;> (try (simp [DataW.trod, hu] at hz; done))
          rename_i s
          simp only [DataW.trod, hu] at hz
          split at hz
          · rename_i hk
            injection hz with hz
            subst hz
            refine ⟨s, rfl, hk, fun h => ?_, trivial⟩
            simpa [DataW.weights, SzD] using h
          · cases hz
        case slice e =>
          rw [Option.map_eq_some_iff] at h
          obtain ⟨σ, hσ, rfl⟩ := h
          simp only [lay, hu, hσ, Bool.and_eq_true, beq_iff_eq] at hl
          have ih := trod_rel n e σ hσ hl.1
          rcases cs with _ | ⟨c, _ | ⟨c2, cs⟩⟩ <;> (try (simp [DataW.trod, hu] at hz; done))
          cases c <;> (try (simp [DataW.trod, hu] at hz; done))
          rename_i a? len cap
          cases a? with
          | none =>
            cases len with
            | succ len => simp [DataW.trod, hu] at hz
            | zero =>
              cases cap with
              | succ cap => simp [DataW.trod, hu] at hz
              | zero =>
                have hz : (DataW.nil, []) = z := by simpa [DataW.trod, hu] using hz
                subst hz
                exact ⟨[], ⟨none, 0, rfl, Nat.le_refl _, fun i x hx => by simp at hx⟩, ⟨by simp, by simp⟩, fun _ => ⟨by simp, by simp⟩, .inl ⟨rfl, rfl⟩⟩
          | some a =>
            simp only [DataW.trod, hu] at hz
            split at hz
            rotate_left
            · cases hz
            rename_i hcond
            rw [Option.bind_eq_some_iff] at hz
            obtain ⟨elems, hel, hz⟩ := hz
            rw [Option.map_eq_some_iff] at hz
            obtain ⟨rest, _, hz⟩ := hz
            subst hz
            have hq : ∀ i, i < len → ∃ x : σ.den, (∃ zs, DRel (allB W) W σ x zs ∧ ∀ (j : Nat) y, zs[j]? = some y → W.cell? (a.add (i * σ.size + j)) = some y) ∧ WfD σ x ∧ ((DataW.weightsAll P e (elems.map (·.1))).all (· ≤ reachBytes) = true → SzD σ x) ∧ ∀ y, (elems.map (·.1))[i]? = some y → LD σ x y := by
              intro i hi
              obtain ⟨y, hyi, hy⟩ := mapM_at hel (j := i) (x := i) (by simp [hi])
              rw [Option.bind_eq_some_iff] at hy
              obtain ⟨zs, hzs, hty⟩ := hy
              obtain ⟨x, hx, hwx, hsx, hlx⟩ := ih fuel zs y hty
              refine ⟨x, ⟨zs, hx, fun j u hj => ?_⟩, hwx, fun h => hsx (List.all_eq_true.2 fun n hn => List.all_eq_true.1 h n (weightsAll_mem (List.mem_map_of_mem (List.mem_of_getElem? hyi)) hn)), fun u hu => ?_⟩
              rotate_left
              · rw [List.getElem?_map, hyi] at hu
                simp only [Option.map_some, Option.some.injEq] at hu
                subst hu
                exact hlx
              unfold World.cells? at hzs
              split at hzs
              · have hjl : j < P.cellsOf e := by
                  have := (List.getElem?_eq_some_iff.1 hj).1
                  rw [mapM_len hzs] at this
                  simpa using this
                obtain ⟨u', hu', hc⟩ := mapM_at hzs (j := j) (x := j) (by simp [hjl])
                rw [hj] at hu'
                injection hu' with hu'
                subst hu'
                rw [← hc, Addr.add_add, hl.2.1]
              · cases hzs
            obtain ⟨l, hlen, hall⟩ := exists_list len hq
            refine ⟨l, ⟨some a, cap, by rw [hlen], by rw [hlen]; exact hcond.2.1, fun i x hx => ?_⟩, ⟨by rw [hlen]; omega, fun x hx => ?_⟩, fun h => ?_, .inr ⟨_, _, rfl, ?_, fun i x y hx hy => (hall i x hx).2.2.2 y hy⟩⟩
            rotate_right
            · rw [List.length_map, hlen, mapM_len hel, List.length_range]
            · obtain ⟨⟨zs, h1, h2⟩, _⟩ := hall i x hx
              refine ⟨a, zs, rfl, ?_, h1, h2⟩
              have hpos : 0 < zs.length := by rw [h1.length]; exact σ.size_pos
              have := cell_block_lt (h2 0 _ (List.getElem?_eq_getElem hpos))
              rwa [Addr.add_block] at this
            · obtain ⟨i, hi⟩ := List.getElem?_of_mem hx
              exact (hall i x hi).2.1
            · simp only [DataW.weights, hu, List.all_cons, List.all_append, Bool.and_eq_true, decide_eq_true_eq, List.length_map] at h
              obtain ⟨h1, h2, _⟩ := h
              refine ⟨?_, fun x hx => ?_⟩
              · rw [hlen]
                have h3 : elems.length = len := by rw [mapM_len hel, List.length_range]
                refine Nat.le_trans (Nat.mul_le_mul_left len (Nat.le_of_ble_eq_true hl.2.2)) (Nat.le_trans (Nat.mul_le_mul_right _ ?_) h1)
                omega
              · obtain ⟨i, hi⟩ := List.getElem?_of_mem hx
                exact (hall i x hi).2.2.1 h2
        case struct F =>
          simp only [lay, hu, Bool.and_eq_true] at hl
          obtain ⟨hlf, hall⟩ := hl
          simp only [DataW.trod, hu] at hz
          split at hz
          rotate_left
          · cases hz
          rename_i hc
          rw [Option.map_eq_some_iff] at hz
          obtain ⟨zs, hzs, hz⟩ := hz
          subst hz
          have ha : All2 (fun f (q : Option Ty) => ∀ σ, q = some σ → TrodAt enc' P W base spare held f.type σ ∧ σ.size = P.cellsOf f.type) F.toList (F.toList.map fun f => tyOf P n f.type) := by
            refine All2.of (by simp) fun i f q hf hq σ hσ => ?_
            rw [List.getElem?_map, hf] at hq
            simp only [Option.map_some, Option.some.injEq] at hq
            have h1 := List.all_eq_true.1 hall f (List.mem_of_getElem? hf)
            rw [hq, hσ] at h1
            simp only [Bool.and_eq_true, beq_iff_eq] at h1
            exact ⟨trod_rel n f.type σ (by rw [hq, hσ]) h1.1, h1.2⟩
          cases hms : F.toList.map (fun f => tyOf P n f.type) with
          | nil => rw [hms] at h; simp [tysTop, tysTail] at h
          | cons q qs =>
            rw [hms] at h ha
            cases qs with
            | nil =>
              cases q with
              | none => simp [tysTop] at h
              | some σ =>
                simp only [tysTop, Option.map_some, Option.some.injEq] at h
                subst h
                obtain ⟨x, hx, hwx, hsx⟩ := trod_tail F.toList 0 [some σ] σ cs fuel zs ha rfl hlf hc hzs
                rw [List.drop_zero] at hx
                refine ⟨x, hx, hwx, fun h => hsx ?_, trivial⟩
                simpa only [DataW.weights, hu] using h
            | cons q2 qs =>
              have h : tysTail (q :: q2 :: qs) = some τ := h
              obtain ⟨x, hx, hwx, hsx⟩ := trod_tail F.toList 0 (q :: q2 :: qs) τ cs fuel zs ha h hlf hc hzs
              refine ⟨x, by simpa using hx, hwx, fun h => hsx ?_, by cases τ <;> first | trivial | (exfalso; cases q with | none => simp [tysTail] at h | some σ => simp only [tysTail, Option.map_eq_some_iff] at h; obtain ⟨_, _, h⟩ := h; cases h)⟩
              simpa only [DataW.weights, hu] using h

end

end Go.Proofs.Ytiboikgoaihccaa.R
