/-
Regions whose order is drawn: any order comes to what the order of the text comes to.
-/
import Derived.Test.YtiboikgoaihccaaR27
namespace Go.Proofs.Ytiboikgoaihccaa.R
open Go.RowKit
set_option linter.unusedVariables false
set_option linter.unusedSimpArgs false

/-! ### What the check tells -/
theorem maskOf_bit {M : List Nat} {o : Oper} {i : Nat} (h : Nat.testBit (maskOf M o) i = true) : ∃ e ∈ o.after, Region.binds .any e = true ∧ (e.on = i ∨ Nat.testBit (M.getD e.on 0) i = true) := by
  have key : ∀ (l : List Edge) (m0 : Nat), Nat.testBit (l.foldl (fun m e => bif Region.binds .any e then m ||| ((1 <<< e.on) ||| M.getD e.on 0) else m) m0) i = true → Nat.testBit m0 i = true ∨ ∃ e ∈ l, Region.binds .any e = true ∧ (e.on = i ∨ Nat.testBit (M.getD e.on 0) i = true) := by
    intro l
    induction l with
    | nil => intro m0 h; exact .inl h
    | cons e l ih =>
      intro m0 h
      simp only [List.foldl_cons] at h
      rcases ih _ h with h | ⟨e', he', h⟩
      · cases hb : Region.binds .any e
        · rw [hb] at h; exact .inl h
        · rw [hb] at h
          simp only [cond_true, Nat.testBit_or, Bool.or_eq_true, Nat.one_shiftLeft, Nat.testBit_two_pow, decide_eq_true_eq] at h
          rcases h with h | h
          · exact .inl h
          · exact .inr ⟨e, by simp, hb, h⟩
      · exact .inr ⟨e', by simp [he'], h⟩
  rcases key _ _ h with h | ⟨e, he, h⟩
  · simp at h
  · exact ⟨e, by simpa using he, h⟩

structure OkAt (ops : Array Oper) (M : List Nat) (i : Nat) (x : Oper) : Prop where
  mask : M.getD i 0 = maskOf M x
  back : ∀ e ∈ x.after, Region.binds .any e = true → e.on < i
  dst : ∀ t, x.dst = some t → t < 4095

theorem okFrom_at {ops : Array Oper} {M : List Nat} : ∀ {l : List Oper} {k : Nat}, okFrom ops M k l = true → ∀ (i : Nat) x, l[i]? = some x → OkAt ops M (k + i) x ∧ ∀ (j : Nat) y, i < j → l[j]? = some y → okPair ops M (k + i) (k + j) x y = true
  | [], k, _, i, x, hx => by simp at hx
  | x :: l, k, h, i, y, hy => by
    simp only [okFrom, Bool.and_eq_true] at h
    obtain ⟨⟨⟨⟨⟨h1, h2⟩, h3⟩, _⟩, h4⟩, h5⟩ := h
    cases i with
    | zero =>
      simp only [List.getElem?_cons_zero, Option.some.injEq] at hy
      subst hy
      refine ⟨⟨by simpa using h1, fun e he hb => ?_, fun t ht => ?_⟩, fun j z hij hz => ?_⟩
      · have := List.all_eq_true.1 h2 e (by simpa using he)
        simpa [hb] using this
      · rw [ht] at h3; simpa using h3
      · have key : ∀ (ys : List Oper) (n : Nat), okPairs ops M k x n ys = true → ∀ (j : Nat) z, ys[j]? = some z → okPair ops M k (n + j) x z = true := by
          intro ys
          induction ys with
          | nil => intro n _ j z hz; simp at hz
          | cons w ys ih =>
            intro n hn j z hz
            simp only [okPairs, Bool.and_eq_true] at hn
            cases j with
            | zero => simp only [List.getElem?_cons_zero, Option.some.injEq] at hz; subst hz; exact hn.1
            | succ j =>
              have := ih (n + 1) hn.2 j z (by simpa using hz)
              rw [show n + (j + 1) = n + 1 + j from by omega]
              exact this
        cases j with
        | zero => omega
        | succ j =>
          have := key l (k + 1) h4 j z (by simpa using hz)
          rw [show k + (j + 1) = k + 1 + j from by omega]
          exact this
    | succ i =>
      obtain ⟨h6, h7⟩ := okFrom_at h5 i y (by simpa using hy)
      rw [show k + (i + 1) = k + 1 + i from by omega]
      refine ⟨h6, fun j z hij hz => ?_⟩
      cases j with
      | zero => omega
      | succ j =>
        have := h7 j z (by omega) (by simpa using hz)
        rw [show k + (j + 1) = k + 1 + j from by omega]
        exact this

structure DrawSpec (ops : Array Oper) (M : List Nat) : Prop where
  at_ : ∀ (i : Nat) x, ops[i]? = some x → OkAt ops M i x
  pair : ∀ (i j : Nat) x y, ops[i]? = some x → ops[j]? = some y → i < j → okPair ops M i j x y = true

theorem okDraw_spec {ops : Array Oper} (h : okDraw ops = true) : DrawSpec ops (masks ops.toList []) := by
  have key := okFrom_at h
  refine ⟨fun i x hx => ?_, fun i j x y hx hy hij => ?_⟩
  · have := (key i x (by simpa using hx)).1
    rwa [Nat.zero_add] at this
  · have := (key i x (by simpa using hx)).2 j y hij (by simpa using hy)
    rwa [Nat.zero_add, Nat.zero_add] at this

def Clo (ops : Array Oper) (listed : Array Bool) : Prop := ∀ (j : Nat) o, ops[j]? = some o → listed.getD j false = true → ∀ e ∈ o.after, Region.binds .any e = true → listed.getD e.on false = true

/-- What must come ahead has come. -/
theorem rch_listed {ops : Array Oper} {M : List Nat} (hM : DrawSpec ops M) {listed : Array Bool} (hc : Clo ops listed) : ∀ (j : Nat) o, ops[j]? = some o → (∀ e ∈ o.after, Region.binds .any e = true → listed.getD e.on false = true) → ∀ i, Nat.testBit (M.getD j 0) i = true → listed.getD i false = true := by
  intro j
  induction j using Nat.strongRecOn with
  | _ j ih =>
    intro o ho hdeps i hi
    rw [(hM.at_ j o ho).mask] at hi
    obtain ⟨e, he, hb, h⟩ := maskOf_bit hi
    have hl := hdeps e he hb
    rcases h with h | h
    · rw [← h]; exact hl
    · have hlt := (hM.at_ j o ho).back e he hb
      have hj : j < ops.size := (Array.getElem?_eq_some_iff.1 ho).1
      have ho' : ops[e.on]? = some ops[e.on] := Array.getElem?_eq_getElem (by omega)
      exact ih e.on hlt _ ho' (hc e.on _ ho' hl) i h

theorem rch_of_listed {ops : Array Oper} {M : List Nat} (hM : DrawSpec ops M) {listed : Array Bool} (hc : Clo ops listed) {j : Nat} {o : Oper} (ho : ops[j]? = some o) (hj : listed.getD j false = true) {i : Nat} (hi : Nat.testBit (M.getD j 0) i = true) : listed.getD i false = true :=
  rch_listed hM hc j o ho (hc j o ho hj) i hi

/-! ### How many are left -/
def left (listed : Array Bool) : Nat → Nat
  | 0 => 0
  | n + 1 => (if listed.getD n true = false then 1 else 0) + left listed n

theorem left_zero {listed : Array Bool} : ∀ {n : Nat}, left listed n = 0 → ∀ i, i < n → listed.getD i true = true
  | 0, _, i, h => by omega
  | n + 1, h, i, hi => by
    simp only [left] at h
    by_cases hn : i = n
    · subst hn
      cases hx : listed.getD i true
      · rw [hx] at h; simp at h
      · rfl
    · exact left_zero (n := n) (by omega) i (by omega)

theorem left_set {listed : Array Bool} {j : Nat} (hj : listed.getD j true = false) : ∀ (n : Nat), left (listed.setIfInBounds j true) n + (if j < n then 1 else 0) = left listed n
  | 0 => by simp [left]
  | n + 1 => by
    have ih := left_set hj n
    simp only [left]
    by_cases hjn : j = n
    · subst hjn
      have hlt : j < listed.size := by
        rcases Nat.lt_or_ge j listed.size with h | h
        · exact h
        · simp [Array.getElem?_eq_none h] at hj
      have e1 : (listed.setIfInBounds j true).getD j true = true := by simp [hlt]
      rw [e1, hj]
      simp only [Nat.lt_irrefl, if_false, Nat.add_zero] at ih
      simp only [Nat.lt_succ_self, if_true, Bool.true_eq_false, if_false]
      omega
    · rw [getD_set_ne true hjn]
      by_cases h1 : j < n
      · simp only [h1, if_true] at ih
        rw [if_pos (show j < n + 1 by omega)]
        omega
      · simp only [h1, if_false] at ih
        rw [if_neg (show ¬ j < n + 1 by omega)]
        omega

/-! ### The order of the text -/
def Gd (ops : Array Oper) (o : Oper) (σ : St) (b : Bool) : Prop :=
  match o.guard with
  | none => b = true
  | some (j, want) => ∃ t, (ops[j]?).bind (·.dst) = some t ∧ ((∃ c, σ.get t = .bool c ∧ b = (c == want)) ∨ (σ.get t = .tup [] ∧ b = false))

def StepR (E : Env) (ops : Array Oper) (nm : Nat) (o : Oper) (σ : St) (v : V) (es : List Entry) : Prop :=
  (Gd ops o σ true ∧ aliveB σ o = true ∧ OpDR E nm o σ v es ∧ deadN σ.mem nm es.length = true ∧ es.length < 64 ∧ (o.dst.isSome = true ∨ es = [])) ∨ (Gd ops o σ false ∧ v = .tup [] ∧ es = [])

theorem mix_congr : ∀ (rs : List Res) (sel sel' : Nat → Bool) (σ : St), (∀ i, i < rs.length → sel i = sel' i) → mix sel rs σ = mix sel' rs σ
  | [], _, _, _, _ => rfl
  | x :: rs, sel, sel', σ, h => by
    simp only [mix]
    rw [h 0 (by simp)]
    exact mix_congr rs _ _ _ fun i hi => h (i + 1) (by simpa using hi)

theorem set_self {σ : St} {t : Nat} {v : V} (h : σ.get t = v) : σ.set t v = σ := by
  unfold St.set
  have : σ.fr.set t v = σ.fr := by
    by_cases ht : t < σ.fr.length
    · have : σ.fr[t] = v := by
        rw [← h]; simp [St.get, List.getD_eq_getElem?_getD, ht]
      rw [← this]
      exact List.set_getElem_self ht
    · exact List.set_eq_of_length_le (by omega)
  rw [this]

section
variable {E : Env} {R : Type} {r : R} {H : Handler R} {d : Nat} {ops : Array Oper} {K : St → Option R}

theorem evDOp_split {o : Oper} {σ : St} {K' : St → Option R} (hb : isBar o = false) (he : evDOp E H d o σ K' = some r) :
    ∃ v es, aliveB σ o = true ∧ OpDR E (name d (o.dst.getD 4095)) o σ v es ∧ deadN σ.mem (name d (o.dst.getD 4095)) es.length = true ∧ es.length < 64 ∧ (o.dst.isSome = true ∨ es = []) ∧ K' (σ.apD (name d (o.dst.getD 4095)) o.dst v es) = some r := by
  unfold evDOp at he
  rw [hb] at he
  obtain ⟨h1, h2⟩ := cond_some he
  obtain ⟨v, es, h3, h4⟩ := opD_some h2
  obtain ⟨h5, h6⟩ := cond_some h4
  simp only [Bool.and_eq_true, Nat.blt_eq, Bool.or_eq_true, List.isEmpty_iff] at h5
  exact ⟨v, es, h1, h3, h5.1, h5.2.1, h5.2.2, h6⟩

theorem evDs_split : ∀ (l : List Oper) (σ : St), evDs E H d ops l σ K = some r → ∃ rs : List Res, rs.length ≤ l.length ∧
    (∀ (i : Nat) x, rs[i]? = some x → ∃ o, l[i]? = some o ∧ isBar o = false ∧ x.dst = o.dst ∧ x.nm = name d (o.dst.getD 4095) ∧ StepR E ops x.nm o (mix (fun k => decide (k < i)) rs σ) x.v x.es) ∧
    ((rs.length = l.length ∧ K (mix (fun _ => true) rs σ) = some r) ∨
      ∃ o, l[rs.length]? = some o ∧ isBar o = true ∧ Gd ops o (mix (fun _ => true) rs σ) true ∧ evOp E H d o (mix (fun _ => true) rs σ) (fun σ => evDs E H d ops (l.drop (rs.length + 1)) σ K) = some r)
  | [], σ, he => ⟨[], Nat.le_refl _, fun i x h => by simp at h, .inl ⟨rfl, he⟩⟩
  | o :: l, σ, he => by
    -- one operation, wanted
    have wanted : Gd ops o σ true → evDOp E H d o σ (fun σ => evDs E H d ops l σ K) = some r → ∃ rs : List Res, rs.length ≤ (o :: l).length ∧
        (∀ (i : Nat) x, rs[i]? = some x → ∃ o', (o :: l)[i]? = some o' ∧ isBar o' = false ∧ x.dst = o'.dst ∧ x.nm = name d (o'.dst.getD 4095) ∧ StepR E ops x.nm o' (mix (fun k => decide (k < i)) rs σ) x.v x.es) ∧
        ((rs.length = (o :: l).length ∧ K (mix (fun _ => true) rs σ) = some r) ∨
          ∃ o', (o :: l)[rs.length]? = some o' ∧ isBar o' = true ∧ Gd ops o' (mix (fun _ => true) rs σ) true ∧ evOp E H d o' (mix (fun _ => true) rs σ) (fun σ => evDs E H d ops ((o :: l).drop (rs.length + 1)) σ K) = some r) := by
      intro hg he
      cases hb : isBar o with
      | true =>
        unfold evDOp at he
        rw [hb] at he
        exact ⟨[], by simp, fun i x h => by simp at h, .inr ⟨o, rfl, hb, hg, he⟩⟩
      | false =>
        obtain ⟨v, es, h1, h2, h3, h4, h5, h6⟩ := evDOp_split hb he
        obtain ⟨rs, hl, hp, ht⟩ := evDs_split l _ h6
        refine ⟨⟨o.dst, name d (o.dst.getD 4095), v, es⟩ :: rs, by simpa using hl, fun i x hx => ?_, ?_⟩
        · cases i with
          | zero =>
            simp only [List.getElem?_cons_zero, Option.some.injEq] at hx
            subst hx
            refine ⟨o, rfl, hb, rfl, rfl, .inl ?_⟩
            rw [mix_none _ _ _ (fun _ _ => by simp)]
            exact ⟨hg, h1, h2, h3, h4, h5⟩
          | succ i =>
            obtain ⟨o', ho', hb', e1, e2, hs⟩ := hp i x (by simpa using hx)
            refine ⟨o', by simpa using ho', hb', e1, e2, ?_⟩
            have : mix (fun k => decide (k < i + 1)) (⟨o.dst, name d (o.dst.getD 4095), v, es⟩ :: rs) σ = mix (fun k => decide (k < i)) rs (σ.apD (name d (o.dst.getD 4095)) o.dst v es) := by
              simp only [mix, Nat.add_lt_add_iff_right, Nat.zero_lt_succ, decide_true, cond_true]
              rfl
            rw [this]
            exact hs
        · rcases ht with ⟨h7, h8⟩ | ⟨o', h7, h8, h9, h10⟩
          · exact .inl ⟨by simpa using h7, h8⟩
          · exact .inr ⟨o', by simpa using h7, h8, h9, h10⟩
    have unwanted : Gd ops o σ false → isBar o = false → evDs E H d ops l (σ.put o.dst (.tup [])) K = some r → ∃ rs : List Res, rs.length ≤ (o :: l).length ∧
        (∀ (i : Nat) x, rs[i]? = some x → ∃ o', (o :: l)[i]? = some o' ∧ isBar o' = false ∧ x.dst = o'.dst ∧ x.nm = name d (o'.dst.getD 4095) ∧ StepR E ops x.nm o' (mix (fun k => decide (k < i)) rs σ) x.v x.es) ∧
        ((rs.length = (o :: l).length ∧ K (mix (fun _ => true) rs σ) = some r) ∨
          ∃ o', (o :: l)[rs.length]? = some o' ∧ isBar o' = true ∧ Gd ops o' (mix (fun _ => true) rs σ) true ∧ evOp E H d o' (mix (fun _ => true) rs σ) (fun σ => evDs E H d ops ((o :: l).drop (rs.length + 1)) σ K) = some r) := by
      intro hg hb he
      obtain ⟨rs, hl, hp, ht⟩ := evDs_split l _ he
      refine ⟨⟨o.dst, name d (o.dst.getD 4095), .tup [], []⟩ :: rs, by simpa using hl, fun i x hx => ?_, ?_⟩
      · cases i with
        | zero =>
          simp only [List.getElem?_cons_zero, Option.some.injEq] at hx
          subst hx
          refine ⟨o, rfl, hb, rfl, rfl, .inr ?_⟩
          rw [mix_none _ _ _ (fun _ _ => by simp)]
          exact ⟨hg, rfl, rfl⟩
        | succ i =>
          obtain ⟨o', ho', hb', e1, e2, hs⟩ := hp i x (by simpa using hx)
          refine ⟨o', by simpa using ho', hb', e1, e2, ?_⟩
          have : mix (fun k => decide (k < i + 1)) (⟨o.dst, name d (o.dst.getD 4095), .tup [], []⟩ :: rs) σ = mix (fun k => decide (k < i)) rs (σ.put o.dst (.tup [])) := by
            simp only [mix, Nat.add_lt_add_iff_right, Nat.zero_lt_succ, decide_true, cond_true]
            rfl
          rw [this]
          exact hs
      · rcases ht with ⟨h7, h8⟩ | ⟨o', h7, h8, h9, h10⟩
        · exact .inl ⟨by simpa using h7, h8⟩
        · exact .inr ⟨o', by simpa using h7, h8, h9, h10⟩
    simp only [evDs] at he
    split at he
    · rename_i hg
      exact wanted (by simp [Gd, hg]) he
    · rename_i j want hg
      split at he
      · rename_i t ht
        split at he
        · rename_i b hb
          have hset := set_self hb
          cases b
          · simp only [cond_false] at he
            rw [hset] at he
            cases want
            · simp only [cond_false] at he
              exact wanted (by simp only [Gd, hg]; exact ⟨t, ht, .inl ⟨false, hb, rfl⟩⟩) he
            · simp only [cond_true] at he
              cases hbar : isBar o with
              | true => rw [hbar] at he; cases he
              | false =>
                rw [hbar] at he
                exact unwanted (by simp only [Gd, hg]; exact ⟨t, ht, .inl ⟨false, hb, rfl⟩⟩) hbar he
          · simp only [cond_true] at he
            rw [hset] at he
            cases want
            · simp only [cond_false] at he
              cases hbar : isBar o with
              | true => rw [hbar] at he; cases he
              | false =>
                rw [hbar] at he
                exact unwanted (by simp only [Gd, hg]; exact ⟨t, ht, .inl ⟨true, hb, rfl⟩⟩) hbar he
            · simp only [cond_true] at he
              exact wanted (by simp only [Gd, hg]; exact ⟨t, ht, .inl ⟨true, hb, rfl⟩⟩) he
        · rename_i hb
          cases hbar : isBar o with
          | true => rw [hbar] at he; cases he
          | false =>
            rw [hbar] at he
            exact unwanted (by simp only [Gd, hg]; exact ⟨t, ht, .inr ⟨hb, trivial⟩⟩) hbar he
        · cases he
      · cases he

end
end Go.Proofs.Ytiboikgoaihccaa.R
