/-
What a call hands back: told by the callee, taken by the caller.
-/
import Derived.Test.YtiboikgoaihccaaR20
namespace Go.Proofs.Ytiboikgoaihccaa.R
open Go.RowKit
set_option linter.unusedVariables false

def numβ (nm : Nat) (Ls : List (Option Loc)) : Nat → Option Loc := fun e => if nm ≤ e then (Ls[e - nm]?).join else none

/-- The blocks in which the pure part of a result may lie. -/
def RetF (B : Nat → Prop) (w w' : World) (Ls : List (Option Loc)) (g : Nat) : Prop := g < w'.heap.size ∧ (B g ∨ w.heap.size ≤ g) ∧ ∀ (k : Nat) L, Ls[k]? = some (some L) → L.g ≠ g

structure RetL (B : Nat → Prop) (w w' : World) (r : V) (y : Value) (Ls : List (Option Loc)) : Prop where
  len : Ls.length = (owns r.flat).length
  val : ∀ nm, V3 ⟨addE nm (owns r.flat) [], numβ nm Ls, RetF B w w' Ls, w'⟩ (relab nm r) y
  ent : ∀ (k : Nat) E, (owns r.flat)[k]? = some E → EntOk ⟨[], fun _ => (Ls[k]?).join, RetF B w w' Ls, w'⟩ 0 E
  inj : ∀ (k k' : Nat) L L', Ls[k]? = some (some L) → Ls[k']? = some (some L') → L.g = L'.g → k = k'
  fresh : ∀ (k : Nat) L, Ls[k]? = some (some L) → w.heap.size ≤ L.g

/-- A result of a call: the rows of its own in blocks of their own, the rest in what might be read. -/
def Ret (B : Nat → Prop) (w w' : World) (r : V) (y : Value) : Prop := Grows w w' ∧ ∃ Ls, RetL B w w' r y Ls

/-! ### Lists of entries -/
theorem look_addE (es : List Entry) : ∀ (nm : Nat) (m : List (Nat × Entry)) (e : Nat), look (addE nm es m) e = if nm ≤ e ∧ e < nm + es.length then es[e - nm]? else look m e := by
  induction es with
  | nil => intro nm m e; simp only [addE, List.length_nil, Nat.add_zero]; rw [if_neg (by omega)]
  | cons x es ih =>
    intro nm m e
    simp only [addE, look_cons, ih, List.length_cons]
    by_cases h : nm = e
    · subst h
      rw [if_pos rfl, if_pos (by omega), Nat.sub_self, List.getElem?_cons_zero]
    · rw [if_neg h]
      by_cases h2 : nm + 1 ≤ e ∧ e < nm + 1 + es.length
      · rw [if_pos h2, if_pos (by omega), show e - nm = (e - (nm + 1)) + 1 from by omega, List.getElem?_cons_succ]
      · rw [if_neg h2, if_neg (by omega)]

section
variable {C : Frm} {β : Nat → Option Loc} {σ : St} {as : List (Array Value)} {w w' : World}

theorem Sim.clearN (k : Nat) : ∀ (n : Nat) {k : Nat} {σ : St}, Sim C β σ as w → Sim C β (St.clearN k n σ) as w
  | 0, _, _, h => h
  | n + 1, _, _, h => Sim.clearN k n (h.clear _)

theorem clearN_sub {e : Nat} : ∀ (n k : Nat) (σ : St), (look (St.clearN k n σ).mem e).isSome = true → (look σ.mem e).isSome = true
  | 0, _, _, h => h
  | n + 1, k, σ, h => clear_sub (clearN_sub n (k + 1) _ h)

theorem clearN_none {e : Nat} : ∀ (n k : Nat) (σ : St), k ≤ e → e < k + n → look (St.clearN k n σ).mem e = none
  | 0, _, _, h1, h2 => by omega
  | n + 1, k, σ, h1, h2 => by
    simp only [St.clearN]
    by_cases h : k = e
    · subst h
      cases hl : look (St.clearN (k + 1) n (σ.clear k)).mem k with
      | none => rfl
      | some E =>
        have := clearN_sub n (k + 1) (σ.clear k) (e := k) (by rw [hl]; rfl)
        rw [look_clear_self] at this
        cases this
    · exact clearN_none n (k + 1) _ (by omega) (by omega)

theorem clearN_free (n k : Nat) {g : Nat} (hg : Free C σ.mem β w g) : Free C (St.clearN k n σ).mem β w g :=
  ⟨hg.1, fun ho => hg.2 (ho.imp_left fun ⟨e, L, h1, h2, h3⟩ => ⟨e, L, clearN_sub n k σ h1, h2, h3⟩)⟩

theorem Free.grows {m : List (Nat × Entry)} {g : Nat} (hg : Grows w w') (h : Free C m β w g) : Free C m β w' g := ⟨Nat.lt_of_lt_of_le h.1 hg.size, h.2⟩

/-! ### What is handed back as flat data asks nothing -/
theorem relab1_flat {M : List (Nat × Entry)} {b : Nat → Option Loc} {B B' : Nat → Prop} {k : Nat} {v : V} {y : Value} (hf : flat1 v = true) (h : V1 ⟨M, b, B, w⟩ (relab1 k v) y) : V1 ⟨M, b, B', w⟩ (relab1 k v) y := by
  cases v <;> simp only [flat1, Bool.false_eq_true] at hf <;> exact h

theorem relabL_flat {M : List (Nat × Entry)} {b : Nat → Option Loc} {B B' : Nat → Prop} : ∀ (k : Nat) (cs : List V) {ys : List Value}, cs.all flat1 = true → All2 (V1 ⟨M, b, B, w⟩) (relabL k cs) ys → All2 (V1 ⟨M, b, B', w⟩) (relabL k cs) ys
  | _, [], ys, _, h => by cases ys <;> simp_all [relabL, All2]
  | k, c :: cs, ys, hf, h => by
    simp only [List.all_cons, Bool.and_eq_true] at hf
    cases ys with
    | nil => exact h.elim
    | cons y ys => exact ⟨relab1_flat hf.1 h.1, relabL_flat _ cs hf.2 h.2⟩

def flat2 : V → Bool
  | .agg cs => cs.all flat1
  | v => flat1 v

theorem relab2_flat {M : List (Nat × Entry)} {b : Nat → Option Loc} {B B' : Nat → Prop} {k : Nat} {v : V} {y : Value} (hf : flat2 v = true) (h : V2 ⟨M, b, B, w⟩ (relab2 k v) y) : V2 ⟨M, b, B', w⟩ (relab2 k v) y := by
  cases v with
  | agg cs =>
    obtain ⟨ys, rfl, h⟩ := h
    exact ⟨ys, rfl, relabL_flat k cs hf h⟩
  | own t l =>
    have h : V1 _ (relab1 k (.own t l)) y := h
    exact V2.of1 (relab1_flat (v := .own t l) hf h)
  | int k' n => exact h
  | bool x => exact h
  | str s => exact h
  | _ => simp [flat2, flat1] at hf

theorem relabT_flat {M : List (Nat × Entry)} {b : Nat → Option Loc} {B B' : Nat → Prop} : ∀ (k : Nat) (cs : List V) {ys : List Value}, cs.all flat2 = true → All2 (V2 ⟨M, b, B, w⟩) (relabT k cs) ys → All2 (V2 ⟨M, b, B', w⟩) (relabT k cs) ys
  | _, [], ys, _, h => by cases ys <;> simp_all [relabT, All2]
  | k, c :: cs, ys, hf, h => by
    simp only [List.all_cons, Bool.and_eq_true] at hf
    cases ys with
    | nil => exact h.elim
    | cons y ys => exact ⟨relab2_flat hf.1 h.1, relabT_flat _ cs hf.2 h.2⟩

theorem flatV_tup (vs : List V) : flatV (.tup vs) = vs.all flat2 := by
  show (vs.all fun v => match v with
    | .agg cs => cs.all flat1
    | v => flat1 v) = vs.all flat2
  congr 1

theorem relab_flat {M : List (Nat × Entry)} {b : Nat → Option Loc} {B B' : Nat → Prop} {k : Nat} {v : V} {y : Value} (hf : flatV v = true) (h : V3 ⟨M, b, B, w⟩ (relab k v) y) : V3 ⟨M, b, B', w⟩ (relab k v) y := by
  cases v with
  | tup vs =>
    obtain ⟨ys, rfl, h⟩ := h
    rw [flatV_tup] at hf
    exact ⟨ys, rfl, relabT_flat k vs hf h⟩
  | agg cs => exact V3.of2 (relab2_flat (v := .agg cs) hf h)
  | own t l => exact V3.of2 (relab2_flat (v := .own t l) (k := k) hf h)
  | int k' n => exact h
  | bool x => exact h
  | str s => exact h
  | _ => simp [flatV, flat1] at hf

theorem owns_flat : ∀ (cs : List V) (k : Nat) {E : Entry}, cs.all flat1 = true → (owns cs)[k]? = some E → ∃ t l, E = .row t l ∧ t.flat = true
  | [], _, _, _, h => by simp [owns] at h
  | c :: cs, k, E, hf, h => by
    simp only [List.all_cons, Bool.and_eq_true] at hf
    cases c with
    | own t l =>
      simp only [owns] at h
      cases k with
      | zero => simp only [List.getElem?_cons_zero, Option.some.injEq] at h; exact ⟨t, l, h.symm, hf.1⟩
      | succ k => exact owns_flat cs k hf.2 (by simpa using h)
    | _ => exact owns_flat cs k hf.2 h

theorem flatV_cells {v : V} (h : flatV v = true) : v.flat.all flat1 = true := by
  have key : ∀ v : V, flat2 v = true → v.cells.all flat1 = true := by
    intro v hv
    cases v <;> first | exact hv | simpa [V.cells, flat2] using hv
  by_cases ht : v.isTup = true
  · cases v <;> simp only [V.isTup, Bool.false_eq_true] at ht
    rename_i vs
    rw [flatV_tup] at h
    simp only [V.flat, List.all_flatMap, List.all_eq_true] at h ⊢
    intro v hv c hc
    exact List.all_eq_true.1 (key v (h v hv)) c hc
  · have e1 : flatV v = flat2 v := by cases v <;> first | rfl | simp [V.isTup] at ht
    have e2 : v.flat = v.cells := by cases v <;> first | rfl | simp [V.isTup] at ht
    rw [e2]
    exact key v (by rw [← e1]; exact h)

theorem EntOk.flatten {B B' : Nat → Prop} {lo : Option Loc} {t : Ty} {l : List t.den} (hf : t.flat = true) (h : EntOk ⟨[], fun _ => lo, B, w⟩ 0 (.row t l)) : EntOk ⟨[], fun _ => lo, B', w⟩ 0 (.row t l) := by
  rcases h with h | ⟨L, cs, el, h1, h2, h3, h4, h5⟩
  · exact .inl h
  · refine .inr ⟨L, cs, el, h1, h2, h3, h4, fun i x hx => ?_⟩
    obtain ⟨zs, hz, hc⟩ := h5 i x hx
    exact ⟨zs, hz.flat hf, hc⟩

theorem Ret.flatten {B B' : Nat → Prop} {r : V} {y : Value} (hf : flatV r = true) (h : Ret B w w' r y) : Ret B' w w' r y := by
  obtain ⟨hg, Ls, h⟩ := h
  refine ⟨hg, Ls, h.len, fun nm => relab_flat hf (h.val nm), fun k E hE => ?_, h.inj, h.fresh⟩
  obtain ⟨t, l, rfl, ht⟩ := owns_flat _ k (flatV_cells hf) hE
  exact (h.ent k _ hE).flatten ht

/-- An entry elsewhere: the same place, more to read. -/
theorem EntOk.row_to {S S' : Cx} {e e' : Nat} {t : Ty} {l : List t.den} (hβ : S'.β e' = S.β e) (hB : ∀ g, S.B g → S'.B g) (hw : S'.w = S.w) (h : EntOk S e (.row t l)) : EntOk S' e' (.row t l) := by
  rcases h with ⟨h0, h1⟩ | ⟨L, cs, el, h1, h2, h3, h4, h5⟩
  · exact .inl ⟨h0, by rw [hβ]; exact h1⟩
  · refine .inr ⟨L, cs, el, by rw [hβ]; exact h1, by rw [hw]; exact h2, h3, h4, fun i x hx => ?_⟩
    obtain ⟨zs, hz, hc⟩ := h5 i x hx
    exact ⟨zs, hz.mono hB (fun _ _ => by rw [hw]), hc⟩

theorem owns_row : ∀ (cs : List V) (k : Nat) {E : Entry}, (owns cs)[k]? = some E → ∃ t l, E = .row t l
  | [], _, _, h => by simp [owns] at h
  | c :: cs, k, E, h => by
    cases c with
    | own t l =>
      simp only [owns] at h
      cases k with
      | zero => simp only [List.getElem?_cons_zero, Option.some.injEq] at h; exact ⟨t, l, h.symm⟩
      | succ k => exact owns_row cs k (by simpa using h)
    | _ => exact owns_row cs k h

/-- The caller takes what is handed back. -/
theorem adopt_sound (h : Sim C β σ as w) {B : Nat → Prop} {r : V} {y : Value} (hr : Ret B w w' r y) (hB : ∀ g, B g → Free C σ.mem β w g) (nm : Nat) :
    ∃ β', Sim C β' (adopt nm r σ).2 as w' ∧ V3 (cx C β' (adopt nm r σ).2 w') (adopt nm r σ).1 y := by
  obtain ⟨hg, Ls, hr⟩ := hr
  have h2 : Sim C β (St.clearN nm (owns r.flat).length σ) as w := h.clearN nm _
  have hnone : ∀ e, nm ≤ e → e < nm + (owns r.flat).length → look (St.clearN nm (owns r.flat).length σ).mem e = none := fun e h3 h4 => clearN_none _ _ _ h3 h4
  have hout : ∀ e E, look (St.clearN nm (owns r.flat).length σ).mem e = some E → ¬ (nm ≤ e ∧ e < nm + (owns r.flat).length) := by
    intro e E hE hh
    rw [hnone e hh.1 hh.2] at hE
    cases hE
  let β' : Nat → Option Loc := fun e => if nm ≤ e ∧ e < nm + (owns r.flat).length then numβ nm Ls e else β e
  have hnew : ∀ e L, (look (addE nm (owns r.flat) (St.clearN nm (owns r.flat).length σ).mem) e).isSome = true → look (St.clearN nm (owns r.flat).length σ).mem e = none → β' e = some L → nm ≤ e ∧ e < nm + (owns r.flat).length ∧ Ls[e - nm]? = some (some L) := by
    intro e L h3 h4 h5
    rw [look_addE] at h3
    by_cases hh : nm ≤ e ∧ e < nm + (owns r.flat).length
    · refine ⟨hh.1, hh.2, ?_⟩
      simp only [β', if_pos hh, numβ, if_pos hh.1] at h5
      cases hl : Ls[e - nm]? with
      | none => rw [hl] at h5; cases h5
      | some o => rw [hl] at h5; simp only [Option.join_some] at h5; rw [h5]
    · rw [if_neg hh, h4] at h3; cases h3
  have hF : ∀ g, RetF B w w' Ls g → Free C (addE nm (owns r.flat) (St.clearN nm (owns r.flat).length σ).mem) β' w' g := by
    rintro g ⟨h3, h4, h5⟩
    refine ⟨h3, ?_⟩
    rintro (⟨e, L, h6, h7, h8⟩ | hh)
    · cases hE : look (St.clearN nm (owns r.flat).length σ).mem e with
      | none => exact h5 _ L (hnew e L h6 hE h7).2.2 h8
      | some E =>
        have h9 := hout e E hE
        have h7 : β e = some L := by simpa [β', if_neg h9] using h7
        have h10 := h2.lt hE h7
        rcases h4 with h4 | h4
        · exact (hB g h4).2 (.inl ⟨e, L, clearN_sub _ _ _ (by rw [hE]; rfl), h7, h8⟩)
        · omega
    · rcases h4 with h4 | h4
      · exact (hB g h4).2 (.inr hh)
      · have := (C.hidOk g hh).1
        have := h.frm.size
        omega
  have hgr : Sim C β' { St.clearN nm (owns r.flat).length σ with mem := addE nm (owns r.flat) (St.clearN nm (owns r.flat).length σ).mem } as w' ∧ Keeps (cx C β (St.clearN nm (owns r.flat).length σ) w) ⟨addE nm (owns r.flat) (St.clearN nm (owns r.flat).length σ).mem, β', Free C (addE nm (owns r.flat) (St.clearN nm (owns r.flat).length σ).mem) β' w', w'⟩ := by
    refine h2.grow hg ?_ ?_ ?_ ?_
    · intro e E hE
      have h9 := hout e E hE
      exact ⟨by rw [look_addE, if_neg h9]; exact hE, by simp only [β', if_neg h9]⟩
    · intro e L h5 h6 h7
      exact hr.fresh _ L (hnew e L h5 h6 h7).2.2
    · intro e e' L L' h5 h6 h7 h8 h9 h10 h11
      have h12 := hnew e L h5 h7 h9
      have h13 := hnew e' L' h6 h8 h10
      have := hr.inj _ _ L L' h12.2.2 h13.2.2 h11
      omega
    · intro hk e E h5 h6
      rw [look_addE] at h6
      by_cases hh : nm ≤ e ∧ e < nm + (owns r.flat).length
      · rw [if_pos hh] at h6
        obtain ⟨t, l, rfl⟩ := owns_row _ _ h6
        refine (hr.ent _ _ h6).row_to (S := ⟨[], fun _ => (Ls[e - nm]?).join, RetF B w w' Ls, w'⟩) ?_ hF rfl
        show β' e = _
        simp only [β', if_pos hh, numβ, if_pos hh.1]
      · rw [if_neg hh, h5] at h6; cases h6
  obtain ⟨h3, h4⟩ := hgr
  refine ⟨β', h3, ?_⟩
  show V3 ⟨addE nm (owns r.flat) (St.clearN nm (owns r.flat).length σ).mem, β', Free C (addE nm (owns r.flat) (St.clearN nm (owns r.flat).length σ).mem) β' w', w'⟩ (relab nm r) y
  refine V3.keeps (S := ⟨addE nm (owns r.flat) [], numβ nm Ls, RetF B w w' Ls, w'⟩) (S' := ⟨addE nm (owns r.flat) (St.clearN nm (owns r.flat).length σ).mem, β', Free C (addE nm (owns r.flat) (St.clearN nm (owns r.flat).length σ).mem) β' w', w'⟩) ⟨fun e E hE => ⟨E, ?_, E.like_refl⟩, fun e he => ?_, hF, fun _ _ => rfl⟩ (hr.val nm)
  · have hE : look (addE nm (owns r.flat) []) e = some E := hE
    rw [look_addE] at hE
    show look (addE nm (owns r.flat) (St.clearN nm (owns r.flat).length σ).mem) e = some E
    rw [look_addE]
    by_cases hh : nm ≤ e ∧ e < nm + (owns r.flat).length
    · rw [if_pos hh] at hE ⊢; exact hE
    · rw [if_neg hh] at hE; cases hE
  · have he : (look (addE nm (owns r.flat) []) e).isSome = true := he
    rw [look_addE] at he
    by_cases hh : nm ≤ e ∧ e < nm + (owns r.flat).length
    · show β' e = numβ nm Ls e
      simp only [β', if_pos hh]
    · rw [if_neg hh] at he; cases he

end
end Go.Proofs.Ytiboikgoaihccaa.R
