/-
What the evaluator does to its state, and what that means in memory.
-/
import Derived.Test.YtiboikgoaihccaaR3
namespace Go.Proofs.Ytiboikgoaihccaa.R
open Go.RowKit

abbrev cx (C : Frm) (β : Nat → Option Loc) (σ : St) (w : World) : Cx := ⟨σ.mem, β, Free C σ.mem β w, w⟩

section
variable {S S' : Cx} {v : V} {x : Value}
theorem V0.isFn (h : V0 S v x) : v.isFn = false := by cases v <;> first | rfl | exact h.elim
theorem V0.isAgg (h : V0 S v x) : v.isAgg = false := by cases v <;> first | rfl | exact h.elim
theorem V0.isTup (h : V0 S v x) : v.isTup = false := by cases v <;> first | rfl | exact h.elim
theorem V1.isAgg (h : V1 S v x) : v.isAgg = false := by cases v <;> first | rfl | exact h.elim
theorem V1.isTup (h : V1 S v x) : v.isTup = false := by cases v <;> first | rfl | exact h.elim
theorem V2.isTup (h : V2 S v x) : v.isTup = false := by cases v <;> first | rfl | exact h.elim
theorem V1.of0 (h : V0 S v x) : V1 S v x := V1.of h.isFn h
theorem V2.of1 (h : V1 S v x) : V2 S v x := V2.of h.isAgg h
theorem V3.of2 (h : V2 S v x) : V3 S v x := V3.of h.isTup h
theorem V2.of0 (h : V0 S v x) : V2 S v x := .of1 (.of0 h)
theorem V3.of0 (h : V0 S v x) : V3 S v x := .of2 (.of0 h)
theorem V3.of1 (h : V1 S v x) : V3 S v x := .of2 (.of1 h)
theorem V3.undef : V3 S .undef x := trivial

theorem V1.map {g : V → V} (hg : ∀ v x, V0 S v x → V0 S' (g v) x) (h : V1 S v x) : V1 S' (v.mapC g) x := by
  rcases V1.cases h with ⟨f, caps, rfl, ys, hx, ha⟩ | ⟨h1, h0⟩
  · exact ⟨ys, hx, ha.map g hg⟩
  · have : v.mapC g = g v := by cases v <;> first | rfl | simp [V.isFn] at h1
    rw [this]
    exact .of0 (hg _ _ h0)
theorem V2.map {g : V → V} (hg : ∀ v x, V0 S v x → V0 S' (g v) x) (h : V2 S v x) : V2 S' (v.mapA g) x := by
  rcases V2.cases h with ⟨cs, rfl, ys, hx, ha⟩ | ⟨h1, h0⟩
  · exact ⟨ys, hx, ha.map (V.mapC g) fun a b h => V1.map (v := a) (x := b) hg h⟩
  · have : v.mapA g = v.mapC g := by cases v <;> first | rfl | simp [V.isAgg] at h1
    rw [this]
    exact .of1 (h0.map hg)
theorem V3.map {g : V → V} (hg : ∀ v x, V0 S v x → V0 S' (g v) x) (h : V3 S v x) : V3 S' (v.map1 g) x := by
  rcases V3.cases h with ⟨cs, rfl, ys, hx, ha⟩ | ⟨h1, h0⟩
  · exact ⟨ys, hx, ha.map (V.mapA g) fun a b h => V2.map (v := a) (x := b) hg h⟩
  · have : v.map1 g = v.mapA g := by cases v <;> first | rfl | simp [V.isTup] at h1
    rw [this]
    exact .of2 (h0.map hg)

theorem FrRel.map {g : V → V} (hg : ∀ v x, V0 S v x → V0 S' (g v) x) (hu : g .undef = .undef) {fr : List V} {tmps : Array Value} (h : FrRel S fr tmps) : FrRel S' (fr.map (V.map1 g)) tmps := by
  refine ⟨by simpa using h.1, fun t => ?_⟩
  have h1 := (h.2 t).map hg
  have h2 : (fr.map (V.map1 g)).getD t .undef = (fr.getD t .undef).map1 g := by
    have h3 : V.undef.map1 g = .undef := hu
    simp only [List.getD_eq_getElem?_getD, List.getElem?_map]
    cases fr[t]? with
    | none => simp [h3]
    | some v => simp
  rw [h2]
  exact h1
end

section
variable {C : Frm} {β : Nat → Option Loc} {σ : St} {as : List (Array Value)} {w : World}

theorem Sim.top {a : Array Value} (h : Sim C β σ (a :: as) w) : FrRel (cx C β σ w) σ.fr a := h.fr.1

theorem Sim.get {a : Array Value} (h : Sim C β σ (a :: as) w) (t : Nat) : V3 (cx C β σ w) (σ.get t) (a.getD t undef) := h.top.2 t

/-- A slot is written. -/
theorem Sim.set {a : Array Value} (h : Sim C β σ (a :: as) w) (t : Nat) {v : V} {x : Value} (hv : V3 (cx C β σ w) v x) : Sim C β (σ.set t v) (a.setIfInBounds t x :: as) w := by
  refine ⟨h.frm, ⟨⟨by simpa [St.set] using h.top.1, fun s => ?_⟩, h.fr.2⟩, h.ent, h.inj, h.own⟩
  have h0 := h.top.2 s
  have hl := h.top.1
  show V3 _ ((σ.fr.set t v).getD s .undef) ((a.setIfInBounds t x).getD s undef)
  simp only [List.getD_eq_getElem?_getD, List.getElem?_set]
  by_cases hs : t = s
  · subst hs
    by_cases hb : t < σ.fr.length
    · have hb' : t < a.size := by omega
      simp only [if_true, hb, Option.getD_some]
      have : (a.setIfInBounds t x).getD t undef = x := by simp [hb']
      rw [this]; exact hv
    · simp only [if_true, hb, if_false, Option.getD_none]
      exact V3.undef
  · simp only [hs, if_false]
    have : (a.setIfInBounds t x).getD s undef = a.getD s undef := by
      simp only [Array.getD_eq_getD_getElem?, Array.getElem?_setIfInBounds, hs, if_false]
    rw [this]
    rw [List.getD_eq_getElem?_getD] at h0
    exact h0

/-- The entries, their names and places turn, and their blocks; all that refers to them turns by g. -/
theorem Sim.mapW (h : Sim C β σ as w) (g : V → V) (m' : List (Nat × Entry)) (β' : Nat → Option Loc) (old : Nat → Nat) {w' : World}
    (hfrm : FrmOk C w') (hsz : w.heap.size ≤ w'.heap.size)
    (hu : g .undef = .undef)
    (hm : ∀ e', (look m' e').isSome = true → (look σ.mem (old e')).isSome = true ∧ ∀ L', β' e' = some L' → ∃ L, β (old e') = some L ∧ L'.g = L.g)
    (hinj : ∀ e1 e2, (look m' e1).isSome = true → (look m' e2).isSome = true → old e1 = old e2 → e1 = e2)
    (hV0 : (∀ gg, Free C σ.mem β w gg → Free C m' β' w' gg) → ∀ v x, V0 (cx C β σ w) v x → V0 ⟨m', β', Free C m' β' w', w'⟩ (g v) x)
    (hent : (∀ gg, Free C σ.mem β w gg → Free C m' β' w' gg) → ∀ e' E', look m' e' = some E' → EntOk ⟨m', β', Free C m' β' w', w'⟩ e' E') :
    Sim C β' { fr := σ.fr.map (V.map1 g), outs := σ.outs.map (List.map (V.map1 g)), mem := m' } as w' := by
  have hF : ∀ gg, Free C σ.mem β w gg → Free C m' β' w' gg := by
    rintro gg ⟨h1, h2⟩
    refine ⟨Nat.lt_of_lt_of_le h1 hsz, ?_⟩
    refine fun hoh => h2 (hoh.imp_left ?_)
    rintro ⟨e', L', h3, h4, h5⟩
    obtain ⟨h6, h7⟩ := hm e' h3
    obtain ⟨L, h8, h9⟩ := h7 L' h4
    exact ⟨old e', L, h6, h8, by rw [← h9, h5]⟩
  refine ⟨hfrm, ?_, hent hF, ?_, ?_⟩
  · have := h.fr.map (List.map (V.map1 g)) (Q := FrRel ⟨m', β', Free C m' β' w', w'⟩) fun fr tmps hr => hr.map (hV0 hF) hu
    simpa using this
  · intro e e' L L' h1 h2 h3 h4 h5
    obtain ⟨h6, h7⟩ := hm e h1
    obtain ⟨h8, h9⟩ := hm e' h2
    obtain ⟨L1, h10, h11⟩ := h7 L h3
    obtain ⟨L2, h12, h13⟩ := h9 L' h4
    exact hinj e e' h1 h2 (h.inj _ _ L1 L2 h6 h8 h10 h12 (by rw [← h11, ← h13, h5]))
  · intro e L h1 h2
    obtain ⟨h6, h7⟩ := hm e h1
    obtain ⟨L1, h10, h11⟩ := h7 L h2
    rw [h11]
    exact h.own _ L1 h6 h10

/-- The same in one world. -/
theorem Sim.map (h : Sim C β σ as w) (g : V → V) (m' : List (Nat × Entry)) (β' : Nat → Option Loc) (old : Nat → Nat)
    (hu : g .undef = .undef)
    (hm : ∀ e', (look m' e').isSome = true → (look σ.mem (old e')).isSome = true ∧ ∀ L', β' e' = some L' → ∃ L, β (old e') = some L ∧ L'.g = L.g)
    (hinj : ∀ e1 e2, (look m' e1).isSome = true → (look m' e2).isSome = true → old e1 = old e2 → e1 = e2)
    (hV0 : (∀ gg, Free C σ.mem β w gg → Free C m' β' w gg) → ∀ v x, V0 (cx C β σ w) v x → V0 ⟨m', β', Free C m' β' w, w⟩ (g v) x)
    (hent : (∀ gg, Free C σ.mem β w gg → Free C m' β' w gg) → ∀ e' E', look m' e' = some E' → EntOk ⟨m', β', Free C m' β' w, w⟩ e' E') :
    Sim C β' { fr := σ.fr.map (V.map1 g), outs := σ.outs.map (List.map (V.map1 g)), mem := m' } as w :=
  h.mapW g m' β' old h.frm (Nat.le_refl _) hu hm hinj hV0 hent

/-- An entry that stays, all that refers to others turned by g. -/
theorem EntOk.map {S S' : Cx} {g : V → V} {e e' : Nat} {E : Entry} (hg : ∀ v x, V0 S v x → V0 S' (g v) x) (hB : ∀ gg, S.B gg → S'.B gg) (hw : ∀ gg, S.B gg → S'.w.heap[gg]? = S.w.heap[gg]?) (hb : ∀ L, S.β e = some L → S'.w.heap[L.g]? = S.w.heap[L.g]?) (hβ : S'.β e' = S.β e) (h : EntOk S e E) : EntOk S' e' (E.map1 g) := by
  cases E with
  | row t l =>
    rcases h with ⟨h0, h1⟩ | ⟨L, cs, el, h1, h2, h3, h4, h5⟩
    · exact .inl ⟨h0, by rw [hβ]; exact h1⟩
    · refine .inr ⟨L, cs, el, by rw [hβ]; exact h1, by rw [hb L h1]; exact h2, h3, h4, fun i x hx => ?_⟩
      obtain ⟨zs, hz, hc⟩ := h5 i x hx
      exact ⟨zs, hz.mono hB hw, hc⟩
  | box vs =>
    obtain ⟨L, cs, el, h1, h2, h3, h5⟩ := h
    refine ⟨L, cs, el, by rw [hβ]; exact h1, by rw [hb L h1]; exact h2, h3, fun j v hj => ?_⟩
    rw [List.getElem?_map] at hj
    cases hv : vs[j]? with
    | none => simp [hv] at hj
    | some u =>
      simp only [hv, Option.map_some, Option.some.injEq] at hj
      subst hj
      obtain ⟨y, hy, h0, ho⟩ := h5 j u hv
      exact ⟨y, hy, h0.map hg, ho⟩

theorem Entry.map1_like (g : V → V) (E : Entry) : E.like (E.map1 g) := by cases E <;> simp [Entry.like, Entry.map1]

/-- A row's entry under another memory. -/
theorem row_of_map {m : List (Nat × Entry)} {e : Nat} {g : V → V} {t : Ty} {l : List t.den} (h : look m e = some (.row t l)) : (look m e).map (Entry.map1 g) = some (.row t l) := by rw [h]; rfl

/-- The entry to which a value refers. -/
def refOf : V → Option Nat
  | .slw e => some e
  | .sl e _ _ => some e
  | .ptr e _ _ => some e
  | _ => none

/-- A reference to an entry that stays keeps its meaning. -/
theorem V0.other {S S' : Cx} {g : V → V} (hB : ∀ gg, S.B gg → S'.B gg) (hw : ∀ gg, S.B gg → S'.w.heap[gg]? = S.w.heap[gg]?) {v : V} {x : Value} (h : V0 S v x)
    (hv : ∀ e, refOf v = some e → look S'.m e = (look S.m e).map (Entry.map1 g) ∧ S'.β e = S.β e) : V0 S' v x := by
  cases v with
  | slw e =>
    obtain ⟨h1, h2⟩ := hv e rfl
    obtain ⟨t, l, hl, hs⟩ := h
    exact ⟨t, l, by rw [h1]; exact row_of_map hl, by rw [h2]; exact hs⟩
  | sl e o n =>
    obtain ⟨h1, h2⟩ := hv e rfl
    obtain ⟨t, l, hl, ho, hs, hcap⟩ := h
    exact ⟨t, l, by rw [h1]; exact row_of_map hl, ho, by rw [h2]; exact hs, hcap⟩
  | ptr e i o =>
    obtain ⟨h1, h2⟩ := hv e rfl
    obtain ⟨E, L, hl, hL, hx⟩ := h
    refine ⟨E.map1 g, L, by rw [h1, hl]; rfl, by rw [h2]; exact hL, ?_⟩
    cases E <;> exact hx
  | ro t l => exact DRel.mono hB hw h
  | rop cs =>
    obtain ⟨a, hx, hb, hc⟩ := h
    refine ⟨a, hx, hB _ hb, fun j v hj => ?_⟩
    obtain ⟨y, hy, h0⟩ := hc j v hj
    refine ⟨y, by rw [cell_block (hw _ hb)]; exact hy, ?_⟩
    cases v <;> simp only [C0] at h0 ⊢ <;> first | exact h0 | exact h0.mono hB hw
  | _ => exact h

theorem killV_other {e : Nat} {v : V} (h : refOf v ≠ some e) : killV e v = v := by
  cases v <;> first | rfl | (simp only [refOf, ne_eq, Option.some.injEq] at h; rw [← Ne, ← beq_eq_false_iff_ne] at h; simp [killV, h])

theorem frzV_other {e : Nat} {t : Ty} {l : List t.den} {v : V} (h : refOf v ≠ some e) : frzV e t l v = v := by
  cases v <;> first | rfl | (simp only [refOf, ne_eq, Option.some.injEq] at h; rw [← Ne, ← beq_eq_false_iff_ne] at h; simp [frzV, h])

theorem renV_other {e e2 : Nat} {v : V} (h : refOf v ≠ some e) (h2 : refOf v ≠ some e2) : renV e e2 v = v := by
  cases v <;> first | rfl | (simp only [refOf, ne_eq, Option.some.injEq] at h h2; rw [← Ne, ← beq_eq_false_iff_ne] at h h2; simp [renV, h, h2])

/-- An entry goes; what referred to it turns by g. -/
theorem Sim.less (h : Sim C β σ as w) (e : Nat) (g : V → V) (hu : g .undef = .undef) (hg : ∀ v, refOf v ≠ some e → g v = v)
    (he : (∀ gg, Free C σ.mem β w gg → Free C ((dropE σ.mem e).map fun p => (p.1, p.2.map1 g)) β w gg) → ∀ v x, refOf v = some e → V0 (cx C β σ w) v x → V0 ⟨(dropE σ.mem e).map fun p => (p.1, p.2.map1 g), β, Free C ((dropE σ.mem e).map fun p => (p.1, p.2.map1 g)) β w, w⟩ (g v) x) :
    Sim C β (St.map1 g { σ with mem := dropE σ.mem e }) as w := by
  have lk : ∀ e', look ((dropE σ.mem e).map fun p => (p.1, p.2.map1 g)) e' = if e' = e then none else (look σ.mem e').map (Entry.map1 g) := by
    intro e'
    rw [look_map]
    by_cases h : e' = e
    · subst h; simp [look_dropE_same]
    · simp [look_dropE_other _ h, h]
  have hs : ∀ e', (look ((dropE σ.mem e).map fun p => (p.1, p.2.map1 g)) e').isSome = true → e' ≠ e ∧ (look σ.mem e').isSome = true := by
    intro e' h1
    rw [lk] at h1
    by_cases he : e' = e
    · simp [he] at h1
    · simp only [he, if_false, Option.isSome_map] at h1
      exact ⟨he, h1⟩
  have key : (∀ gg, Free C σ.mem β w gg → Free C ((dropE σ.mem e).map fun p => (p.1, p.2.map1 g)) β w gg) → ∀ v x, V0 (cx C β σ w) v x → V0 ⟨(dropE σ.mem e).map fun p => (p.1, p.2.map1 g), β, Free C ((dropE σ.mem e).map fun p => (p.1, p.2.map1 g)) β w, w⟩ (g v) x := by
    intro hF v x hv
    by_cases hr : refOf v = some e
    · exact he hF v x hr hv
    · rw [hg v hr]
      refine V0.other (S := cx C β σ w) (S' := ⟨(dropE σ.mem e).map fun p => (p.1, p.2.map1 g), β, Free C ((dropE σ.mem e).map fun p => (p.1, p.2.map1 g)) β w, w⟩) (g := g) hF (fun _ _ => rfl) hv fun e' he' => ⟨?_, rfl⟩
      show look ((dropE σ.mem e).map fun p => (p.1, p.2.map1 g)) e' = _
      rw [lk, if_neg (fun he2 => hr (by rw [he', he2]))]
  refine h.map g _ β id hu (fun e' h1 => ⟨(hs e' h1).2, fun L hL => ⟨L, hL, rfl⟩⟩) (fun _ _ _ _ h1 => h1) key fun hF e' E' hE => ?_
  have h1 := hs e' (by rw [hE]; rfl)
  rw [lk, if_neg h1.1] at hE
  cases hl : look σ.mem e' with
  | none => simp [hl] at hE
  | some E =>
    simp only [hl, Option.map_some, Option.some.injEq] at hE
    subst hE
    exact (h.ent e' E hl).map (S := cx C β σ w) (e := e') (key hF) hF (fun _ _ => rfl) (fun _ _ => rfl) rfl

theorem Sim.kill (h : Sim C β σ as w) (e : Nat) : Sim C β (σ.kill e) as w :=
  h.less e (killV e) rfl (fun _ => killV_other) fun _ v x hr _ => by
    cases v <;> simp only [refOf, Option.some.injEq, reduceCtorEq] at hr <;> subst hr <;> simp [killV, V0]

theorem look_kill (σ : St) (e e' : Nat) : look (σ.kill e).mem e' = if e' = e then none else (look σ.mem e').map (Entry.map1 (killV e)) := by
  show look ((dropE σ.mem e).map fun p => (p.1, p.2.map1 (killV e))) e' = _
  rw [look_map]
  by_cases h : e' = e
  · subst h; simp [look_dropE_same]
  · simp [look_dropE_other _ h, h]

theorem Sim.clear (h : Sim C β σ as w) (e : Nat) : Sim C β (σ.clear e) as w := by
  unfold St.clear
  cases (look σ.mem e).isSome
  · exact h
  · exact h.kill e

theorem look_clear_self (σ : St) (e : Nat) : look (σ.clear e).mem e = none := by
  unfold St.clear
  cases hl : look σ.mem e with
  | none => exact hl
  | some x => show look (σ.kill e).mem e = none; rw [look_kill, if_pos rfl]

theorem clear_sub {σ : St} {e e' : Nat} (h : (look (σ.clear e).mem e').isSome = true) : (look σ.mem e').isSome = true := by
  unfold St.clear at h
  cases hl : look σ.mem e with
  | none => rw [hl] at h; exact h
  | some x =>
    rw [hl] at h
    have h : (look (σ.kill e).mem e').isSome = true := h
    rw [look_kill] at h
    by_cases he : e' = e
    · simp [he] at h
    · simpa [he] using h

theorem clear_free {e g : Nat} (hg : Free C σ.mem β w g) : Free C (σ.clear e).mem β w g := by
  obtain ⟨h1, h2⟩ := hg
  exact ⟨h1, fun hoh => h2 (hoh.imp_left fun ⟨e', L, h3, h4, h5⟩ => ⟨e', L, clear_sub h3, h4, h5⟩)⟩

/-- A part of a row of the call's own, read as pure data. -/
theorem own_reads {S : Cx} {B' : Nat → Prop} {w' : World} {e : Nat} {t : Ty} {l : List t.den} {o n : Nat} {x : Value} (hent : EntOk S e (.row t l)) (ho : o + n ≤ l.length) (hs : SlAt (S.β e) t.size o n x)
    (hB : ∀ g, S.B g → B' g) (hg : ∀ L, S.β e = some L → B' L.g) (hw : ∀ g, B' g → w'.heap[g]? = S.w.heap[g]?) : DRel B' w' (.list t) ((l.drop o).take n) [x] := by
  obtain ⟨A, c, rfl, hc, h⟩ := hs
  have hlen : ((l.drop o).take n).length = n := by simp; omega
  refine ⟨A, c, by rw [hlen], by omega, fun i y hy => ?_⟩
  have hi : i < n := by
    rcases Nat.lt_or_ge i n with h' | h'
    · exact h'
    · rw [List.getElem?_eq_none (by omega)] at hy; cases hy
  rw [List.getElem?_take_of_lt hi, List.getElem?_drop] at hy
  rcases h with h0 | ⟨L, hL, rfl, hfit⟩
  · omega
  rcases hent with ⟨h0, h1⟩ | ⟨L', cs, el, h1, h2, h3, h4, h5⟩
  · subst h0; simp at hy
  · rw [hL] at h1
    injection h1 with h1
    subst h1
    obtain ⟨zs, hz, hcell⟩ := h5 (o + i) y hy
    refine ⟨_, zs, rfl, hg L hL, hz.mono hB (fun g hh => hw g (hB g hh)), fun j z hj => ?_⟩
    have := hcell j z hj
    rw [Addr.add_mid]
    have hb : w'.heap[L.g]? = some (.cells cs el (0, 0)) := by rw [hw _ (hg L hL)]; exact h2
    rw [cell_of_row w' L.g _ cs el (0, 0) hb, ← this]
    congr 1
    rw [Nat.add_mul]; omega

theorem Sim.frz (h : Sim C β σ as w) (e : Nat) : Sim C β (σ.frz e) as w := by
  unfold St.frz
  cases hl : look σ.mem e with
  | none => simpa using h
  | some E =>
    cases E with
    | box cs => simpa using h
    | row t l =>
      simp only []
      refine h.less e (frzV e t l) rfl (fun _ => frzV_other) fun hF v x hr hv => ?_
      have hent := h.ent e _ hl
      have hg : ∀ L, β e = some L → Free C ((dropE σ.mem e).map fun p => (p.1, p.2.map1 (frzV e t l))) β w L.g := by
        intro L hL
        refine ⟨?_, ?_⟩
        · rcases hent with ⟨_, h1⟩ | ⟨L', cs, el, h1, h2, _⟩
          · have h1 := hL.symm.trans h1; cases h1
          · have h1 := hL.symm.trans h1
            injection h1 with h1
            subst h1
            rcases Nat.lt_or_ge L.g w.heap.size with h' | h'
            · exact h'
            · have h2 : w.heap[L.g]? = _ := h2
              rw [Array.getElem?_eq_none h'] at h2; cases h2
        · rintro (⟨e', L', h1, h2, h3⟩ | hh)
          rotate_left
          · have h1 := C.hidOk _ hh
            rcases h.own e L (by rw [hl]; rfl) hL with h2 | h2
            · omega
            · exact h1.2 h2
          rw [look_map] at h1
          by_cases he : e' = e
          · subst he; simp [look_dropE_same] at h1
          · rw [look_dropE_other _ he] at h1
            exact he (h.inj e' e L' L (by simpa using h1) (by rw [hl]; rfl) h2 hL h3)
      cases v <;> simp only [refOf, Option.some.injEq, reduceCtorEq] at hr <;> subst hr
      · rename_i e
        obtain ⟨t', l', hl', hs⟩ := hv
        have := hl.symm.trans hl'
        injection this with this
        injection this with h1 h2
        subst h1
        have h2 := eq_of_heq h2
        subst h2
        have := own_reads (S := cx C β σ w) hent (by omega : 0 + l.length ≤ l.length) hs hF hg (fun _ _ => rfl)
        simpa [frzV, V0] using this
      · rename_i e o n
        obtain ⟨t', l', hl', ho, hs, _⟩ := hv
        have := hl.symm.trans hl'
        injection this with this
        injection this with h1 h2
        subst h1
        have h2 := eq_of_heq h2
        subst h2
        have := own_reads (S := cx C β σ w) hent ho hs hF hg (fun _ _ => rfl)
        simpa [frzV, V0] using this
      · simp [frzV, V0]

theorem Sim.frz1 (h : Sim C β σ as w) (v : V) : Sim C β (frz1 σ v) as w := by
  cases v <;> first | exact h | exact h.frz _

theorem Sim.frzAll : ∀ (vs : List V) {σ : St}, Sim C β σ as w → Sim C β (σ.frzAll vs) as w
  | [], _, h => h
  | v :: vs, _, h => Sim.frzAll vs (h.frz1 v)

end
end Go.Proofs.Ytiboikgoaihccaa.R
