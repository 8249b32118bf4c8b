/-
Regions whose order is drawn: the state that comes of some of their operations.
-/
import Derived.Test.YtiboikgoaihccaaR26
namespace Go.Proofs.Ytiboikgoaihccaa.R
open Go.RowKit
set_option linter.unusedVariables false
set_option linter.unusedSimpArgs false

structure Res where
  dst : Option Nat
  nm : Nat
  v : V
  es : List Entry

def St.apR (σ : St) (x : Res) : St := σ.apD x.nm x.dst x.v x.es

/-- Some of the operations, in the order of the text. -/
def mix : (Nat → Bool) → List Res → St → St
  | _, [], σ => σ
  | sel, x :: rs, σ => mix (fun i => sel (i + 1)) rs (bif sel 0 then σ.apR x else σ)

/-- e is a name that x gives. -/
def Names (x : Res) (e : Nat) : Prop := x.nm ≤ e ∧ e < x.nm + x.es.length

/-- Nothing that can be seen tells them apart. -/
structure Eqv (σ τ : St) : Prop where
  len : σ.fr.length = τ.fr.length
  get : ∀ t, σ.get t = τ.get t
  outs : σ.outs = τ.outs
  look : ∀ e, look σ.mem e = look τ.mem e

section
variable {σ τ : St} {x : Res} {rs : List Res} {sel sel' : Nat → Bool}

theorem apR_len : (σ.apR x).fr.length = σ.fr.length := by
  unfold St.apR St.apD St.put
  split
  · simp [St.set]
  · rfl
theorem apR_outs : (σ.apR x).outs = σ.outs := by
  unfold St.apR St.apD St.put
  split <;> rfl
theorem apR_mem : (σ.apR x).mem = addE x.nm x.es σ.mem := by
  unfold St.apR St.apD St.put
  split <;> rfl
theorem apR_get (t : Nat) : (σ.apR x).get t = if x.dst = some t ∧ t < σ.fr.length then x.v else σ.get t := by
  obtain ⟨dst, nm, v, es⟩ := x
  cases dst with
  | none => simp [St.apR, St.apD, St.put, St.get]
  | some d =>
    simp only [St.apR, St.apD, St.put, St.get, St.set, List.getD_eq_getElem?_getD, List.getElem?_set, Option.some.injEq]
    by_cases h : d = t
    · subst h
      by_cases hl : d < σ.fr.length
      · simp [hl]
      · simp [hl]
    · simp [h]
theorem apR_look_in {e : Nat} (h : Names x e) : look (σ.apR x).mem e = x.es[e - x.nm]? := by
  rw [apR_mem, look_addE]; exact if_pos h
theorem apR_look_out {e : Nat} (h : ¬ Names x e) : look (σ.apR x).mem e = look σ.mem e := by
  rw [apR_mem, look_addE]; exact if_neg h

theorem mix_len : ∀ (rs : List Res) (sel : Nat → Bool) (σ : St), (mix sel rs σ).fr.length = σ.fr.length
  | [], _, _ => rfl
  | x :: rs, sel, σ => by
    simp only [mix]
    rw [mix_len rs]
    cases sel 0
    · rfl
    · exact apR_len
theorem mix_outs : ∀ (rs : List Res) (sel : Nat → Bool) (σ : St), (mix sel rs σ).outs = σ.outs
  | [], _, _ => rfl
  | x :: rs, sel, σ => by
    simp only [mix]
    rw [mix_outs rs]
    cases sel 0
    · rfl
    · exact apR_outs

theorem mix_get_congr (t : Nat) : ∀ (rs : List Res) (sel sel' : Nat → Bool) (σ σ' : St), σ.fr.length = σ'.fr.length → σ.get t = σ'.get t → (∀ (i : Nat) x, rs[i]? = some x → x.dst = some t → sel i = sel' i) → (mix sel rs σ).get t = (mix sel' rs σ').get t
  | [], _, _, _, _, _, h, _ => h
  | x :: rs, sel, sel', σ, σ', hl, hg, hs => by
    simp only [mix]
    refine mix_get_congr t rs _ _ _ _ ?_ ?_ fun i y hy hd => hs (i + 1) y (by simpa using hy) hd
    · cases sel 0 <;> cases sel' 0 <;> simp only [cond_true, cond_false, apR_len] <;> exact hl
    · by_cases hd : x.dst = some t
      · rw [hs 0 x rfl hd]
        cases sel' 0
        · exact hg
        · simp only [cond_true, apR_get, hd, hl, true_and, hg]
      · cases sel 0 <;> cases sel' 0 <;> simp only [cond_true, cond_false, apR_get, hd, false_and, if_false] <;> exact hg

theorem mix_look_congr (e : Nat) : ∀ (rs : List Res) (sel sel' : Nat → Bool) (σ σ' : St), look σ.mem e = look σ'.mem e → (∀ (i : Nat) x, rs[i]? = some x → Names x e → sel i = sel' i) → look (mix sel rs σ).mem e = look (mix sel' rs σ').mem e
  | [], _, _, _, _, h, _ => h
  | x :: rs, sel, sel', σ, σ', hg, hs => by
    simp only [mix]
    refine mix_look_congr e rs _ _ _ _ ?_ fun i y hy hd => hs (i + 1) y (by simpa using hy) hd
    by_cases hd : Names x e
    · rw [hs 0 x rfl hd]
      cases sel' 0
      · exact hg
      · simp only [cond_true, apR_look_in hd]
    · cases sel 0 <;> cases sel' 0 <;> simp only [cond_true, cond_false, apR_look_out hd] <;> exact hg

theorem mix_none : ∀ (rs : List Res) (sel : Nat → Bool) (σ : St), (∀ i, i < rs.length → sel i = false) → mix sel rs σ = σ
  | [], _, _, _ => rfl
  | x :: rs, sel, σ, h => by
    simp only [mix]
    rw [h 0 (by simp)]
    exact mix_none rs _ _ fun i hi => h (i + 1) (by simpa using hi)

/-- What is there stays there. -/
theorem mix_alive (e : Nat) : ∀ (rs : List Res) (sel sel' : Nat → Bool) (σ σ' : St), ((look σ.mem e).isSome = true → (look σ'.mem e).isSome = true) → (∀ i, sel i = true → sel' i = true) → (look (mix sel rs σ).mem e).isSome = true → (look (mix sel' rs σ').mem e).isSome = true
  | [], _, _, _, _, h, _ => h
  | x :: rs, sel, sel', σ, σ', hg, hs => by
    simp only [mix]
    refine mix_alive e rs _ _ _ _ ?_ fun i h => hs (i + 1) h
    intro h
    by_cases hd : Names x e
    · have hin : e - x.nm < x.es.length := by have := hd.1; have := hd.2; omega
      cases h1 : sel' 0
      · have h2 : sel 0 = false := by
          cases h2 : sel 0
          · rfl
          · rw [hs 0 h2] at h1; cases h1
        rw [h2] at h
        exact hg h
      · simp only [cond_true, apR_look_in hd, List.getElem?_eq_getElem hin]
        rfl
    · have e1 : ∀ b : Bool, ∀ σ : St, look (bif b then σ.apR x else σ).mem e = look σ.mem e := by
        intro b σ
        cases b
        · rfl
        · simp only [cond_true, apR_look_out hd]
      rw [e1] at h ⊢
      exact hg h

/-- One more. -/
theorem mix_more (j : Nat) : ∀ (rs : List Res) (sel : Nat → Bool) (σ : St) (x : Res), rs[j]? = some x → sel j = false →
    (∀ (i : Nat) y, rs[i]? = some y → i ≠ j → (∀ t, x.dst = some t → y.dst ≠ some t) ∧ ∀ e, Names x e → ¬ Names y e) →
    Eqv ((mix sel rs σ).apR x) (mix (fun i => sel i || i == j) rs σ) := by
  intro rs sel σ x hx hsel hdis
  have hj : j < rs.length := (List.getElem?_eq_some_iff.1 hx).1
  refine ⟨by rw [apR_len, mix_len, mix_len], fun t => ?_, by rw [apR_outs, mix_outs, mix_outs], fun e => ?_⟩
  · rw [apR_get, mix_len]
    by_cases hd : x.dst = some t
    · have key : ∀ (rs : List Res) (j : Nat) (sel : Nat → Bool) (σ : St), rs[j]? = some x → (∀ (i : Nat) y, rs[i]? = some y → i ≠ j → y.dst ≠ some t) → sel j = true → (mix sel rs σ).get t = if t < σ.fr.length then x.v else σ.get t := by
        intro rs
        induction rs with
        | nil => intro j sel σ h; simp at h
        | cons y rs ih =>
          intro j sel σ h hne hs
          simp only [mix]
          cases j with
          | zero =>
            simp only [List.getElem?_cons_zero, Option.some.injEq] at h
            subst h
            rw [hs]
            simp only [cond_true]
            have := mix_get_congr t rs (fun i => sel (i + 1)) (fun _ => false) (σ.apR y) (σ.apR y) rfl rfl (fun i z hz hzd => absurd hzd (hne (i + 1) z (by simpa using hz) (by omega)))
            rw [this, mix_none _ _ _ (fun _ _ => rfl), apR_get]
            simp [hd]
          | succ j =>
            have := ih j (fun i => sel (i + 1)) (bif sel 0 then σ.apR y else σ) (by simpa using h) (fun i z hz hi => hne (i + 1) z (by simpa using hz) (by omega)) hs
            rw [this]
            have hy := hne 0 y rfl (by omega)
            cases sel 0
            · rfl
            · simp only [cond_true, apR_len, apR_get]
              simp [hy]
      rw [key rs j (fun i => sel i || i == j) σ hx (fun i y hy hi => (hdis i y hy hi).1 t hd) (by simp)]
      have h0 : (mix sel rs σ).get t = σ.get t := by
        have := mix_get_congr t rs sel (fun _ => false) σ σ rfl rfl (fun i y hy hyd => by
          by_cases hi : i = j
          · subst hi; exact hsel
          · exact absurd hyd ((hdis i y hy hi).1 t hd))
        rw [this, mix_none _ _ _ (fun _ _ => rfl)]
      simp only [hd, true_and, h0]
    · simp only [hd, false_and, if_false]
      refine mix_get_congr t rs _ _ σ σ rfl rfl fun i y hy hyd => ?_
      by_cases hi : i = j
      · subst hi
        rw [hx] at hy
        injection hy with hy
        subst hy
        exact absurd hyd hd
      · simp [hi]
  · by_cases hd : Names x e
    · rw [apR_look_in hd]
      have key : ∀ (rs : List Res) (j : Nat) (sel : Nat → Bool) (σ : St), rs[j]? = some x → (∀ (i : Nat) y, rs[i]? = some y → i ≠ j → ¬ Names y e) → sel j = true → look (mix sel rs σ).mem e = x.es[e - x.nm]? := by
        intro rs
        induction rs with
        | nil => intro j sel σ h; simp at h
        | cons y rs ih =>
          intro j sel σ h hne hs
          simp only [mix]
          cases j with
          | zero =>
            simp only [List.getElem?_cons_zero, Option.some.injEq] at h
            subst h
            rw [hs]
            simp only [cond_true]
            have := mix_look_congr e rs (fun i => sel (i + 1)) (fun _ => false) (σ.apR y) (σ.apR y) rfl (fun i z hz hzd => absurd hzd (hne (i + 1) z (by simpa using hz) (by omega)))
            rw [this, mix_none _ _ _ (fun _ _ => rfl), apR_look_in hd]
          | succ j =>
            exact ih j (fun i => sel (i + 1)) _ (by simpa using h) (fun i z hz hi => hne (i + 1) z (by simpa using hz) (by omega)) hs
      rw [key rs j (fun i => sel i || i == j) σ hx (fun i y hy hi => (hdis i y hy hi).2 e hd) (by simp)]
    · rw [apR_look_out hd]
      refine mix_look_congr e rs _ _ σ σ rfl fun i y hy hyd => ?_
      by_cases hi : i = j
      · subst hi
        rw [hx] at hy
        injection hy with hy
        subst hy
        exact absurd hyd hd
      · simp [hi]

end

section
variable {C : Frm} {β : Nat → Option Loc} {σ τ : St} {as : List (Array Value)} {w : World}

theorem Eqv.sim (h : Eqv σ τ) (hs : Sim C β σ as w) : Sim C β τ as w := by
  have h1 : σ.fr = τ.fr := by
    apply List.ext_getElem?
    intro t
    by_cases ht : t < σ.fr.length
    · have ht' : t < τ.fr.length := by rw [← h.len]; exact ht
      have := h.get t
      simp only [St.get, List.getD_eq_getElem?_getD, List.getElem?_eq_getElem ht, List.getElem?_eq_getElem ht', Option.getD_some] at this
      rw [List.getElem?_eq_getElem ht, List.getElem?_eq_getElem ht', this]
    · rw [List.getElem?_eq_none (by omega), List.getElem?_eq_none (by rw [← h.len]; omega)]
  have := hs.grow (m' := τ.mem) (β' := β) (Grows.refl w) (fun e E hE => ⟨by rw [← h.look]; exact hE, rfl⟩) (fun e L h2 h3 _ => by rw [← h.look, h3] at h2; cases h2) (fun e e' L L' h2 _ h4 _ _ _ _ => by rw [← h.look, h4] at h2; cases h2) (fun _ e E h2 h3 => by rw [← h.look, h2] at h3; cases h3)
  have h2 := this.1
  have e1 : ({ σ with mem := τ.mem } : St) = τ := by
    cases σ; cases τ
    simp only [] at h1
    have h3 := h.outs
    simp only [] at h3
    subst h1; subst h3
    rfl
  rw [e1] at h2
  exact h2

theorem ref0_alive {S : Cx} {v : V} {y : Value} {e : Nat} (h : V0 S v y) (he : e ∈ ref0 v) : (look S.m e).isSome = true := by
  cases v <;> simp only [ref0, List.mem_singleton, List.not_mem_nil] at he <;> subst he
  · obtain ⟨t, l, h, _⟩ := h; rw [h]; rfl
  · obtain ⟨t, l, h, _⟩ := h; rw [h]; rfl
  · obtain ⟨E, L, h, _⟩ := h; rw [h]; rfl

theorem All2.ex {α β : Type} {R : α → β → Prop} {as : List α} {bs : List β} (h : All2 R as bs) {a : α} (ha : a ∈ as) : ∃ b, R a b := by
  induction as generalizing bs with
  | nil => cases ha
  | cons x as ih => cases bs with
    | nil => exact h.elim
    | cons b bs =>
      rcases List.mem_cons.1 ha with rfl | ha
      · exact ⟨b, h.1⟩
      · exact ih h.2 ha

theorem refs1_alive {S : Cx} {v : V} {y : Value} {e : Nat} (h : V1 S v y) (he : e ∈ refs1 v) : (look S.m e).isSome = true := by
  rcases V1.cases h with ⟨f, caps, rfl, ys, _, ha⟩ | ⟨h1, h0⟩
  · simp only [refs1, List.mem_flatMap] at he
    obtain ⟨c, hc, he⟩ := he
    obtain ⟨y, hy⟩ := ha.ex hc
    exact ref0_alive hy he
  · have : refs1 v = ref0 v := by cases v <;> first | rfl | simp [V.isFn] at h1
    rw [this] at he
    exact ref0_alive h0 he

theorem refs2_alive {S : Cx} {v : V} {y : Value} {e : Nat} (h : V2 S v y) (he : e ∈ refs2 v) : (look S.m e).isSome = true := by
  rcases V2.cases h with ⟨cs, rfl, ys, _, ha⟩ | ⟨h1, h0⟩
  · simp only [refs2, List.mem_flatMap] at he
    obtain ⟨c, hc, he⟩ := he
    obtain ⟨y, hy⟩ := ha.ex hc
    exact refs1_alive hy he
  · have : refs2 v = refs1 v := by cases v <;> first | rfl | simp [V.isAgg] at h1
    rw [this] at he
    exact refs1_alive h0 he

theorem refs3_alive {S : Cx} {v : V} {y : Value} {e : Nat} (h : V3 S v y) (he : e ∈ refs3 v) : (look S.m e).isSome = true := by
  rcases V3.cases h with ⟨cs, rfl, ys, _, ha⟩ | ⟨h1, h0⟩
  · simp only [refs3, List.mem_flatMap] at he
    obtain ⟨c, hc, he⟩ := he
    obtain ⟨y, hy⟩ := ha.ex hc
    exact refs2_alive hy he
  · have : refs3 v = refs2 v := by cases v <;> first | rfl | simp [V.isTup] at h1
    rw [this] at he
    exact refs2_alive h0 he
end
end Go.Proofs.Ytiboikgoaihccaa.R
