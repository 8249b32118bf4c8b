/-
The world turns: new blocks, a store into a block of the call's own, calls; names of entries.
-/
import Derived.Test.YtiboikgoaihccaaR4
namespace Go.Proofs.Ytiboikgoaihccaa.R
open Go.RowKit

/-- All that was there is as it was. -/
structure Grows (w w' : World) : Prop where
  os : w'.os = w.os
  tape : w'.tape = w.tape
  output : w'.output = w.output
  size : w.heap.size ≤ w'.heap.size
  block : ∀ g, g < w.heap.size → w'.heap[g]? = w.heap[g]?

theorem Grows.refl (w : World) : Grows w w := ⟨rfl, rfl, rfl, Nat.le_refl _, fun _ _ => rfl⟩
theorem Grows.trans {a b c : World} (h : Grows a b) (h' : Grows b c) : Grows a c :=
  ⟨h'.os.trans h.os, h'.tape.trans h.tape, h'.output.trans h.output, Nat.le_trans h.size h'.size, fun g hg => (h'.block g (Nat.lt_of_lt_of_le hg h.size)).trans (h.block g hg)⟩
theorem Grows.alloc (w : World) (o : Obj) : Grows w (w.alloc o) := ⟨rfl, rfl, rfl, by simp, fun g hg => heap_alloc_old w o g hg⟩
theorem Grows.drew (w : World) : Grows w { w with drawn := w.drawn + 1 } := ⟨rfl, rfl, rfl, Nat.le_refl _, fun _ _ => rfl⟩
theorem Grows.below {w w' : World} (h : Below w.heap.size w w') : Grows w w' := ⟨h.os, h.tape, h.output, h.size, h.block⟩

theorem FrmOk.grows {C : Frm} {w w' : World} (h : FrmOk C w) (hg : Grows w w') : FrmOk C w' :=
  ⟨hg.os.trans h.os, hg.tape.trans h.tape, hg.output.trans h.output, Nat.le_trans h.size hg.size, fun g h1 h2 => (hg.block g (Nat.lt_of_lt_of_le h1 h.size)).trans (h.block g h1 h2)⟩

section
variable {C : Frm} {β : Nat → Option Loc} {σ : St} {as : List (Array Value)} {w : World}

/-- An entry's block is there. -/
theorem Sim.lt (h : Sim C β σ as w) {e : Nat} {E : Entry} {L : Loc} (hl : look σ.mem e = some E) (hL : β e = some L) : L.g < w.heap.size := by
  have hent := h.ent e E hl
  have key : ∀ cs el, w.heap[L.g]? = some (.cells cs el (0, 0)) → L.g < w.heap.size := by
    intro cs el h2
    rcases Nat.lt_or_ge L.g w.heap.size with h' | h'
    · exact h'
    · rw [Array.getElem?_eq_none h'] at h2; cases h2
  cases E with
  | row t l =>
    rcases hent with ⟨_, h1⟩ | ⟨L', cs, el, h1, h2, _⟩
    · have h1 := hL.symm.trans h1; cases h1
    · have h1 := hL.symm.trans h1
      injection h1 with h1
      subst h1
      exact key cs el h2
  | box vs =>
    obtain ⟨L', cs, el, h1, h2, _⟩ := hent
    have h1 := hL.symm.trans h1
    injection h1 with h1
    subst h1
    exact key cs el h2

/-- New blocks, new entries in them; what was there stays. -/
theorem Sim.grow (h : Sim C β σ as w) {m' : List (Nat × Entry)} {β' : Nat → Option Loc} {w' : World} (hg : Grows w w')
    (hold : ∀ e E, look σ.mem e = some E → look m' e = some E ∧ β' e = β e)
    (hnew : ∀ e L, (look m' e).isSome = true → look σ.mem e = none → β' e = some L → w.heap.size ≤ L.g)
    (hinj : ∀ e e' L L', (look m' e).isSome = true → (look m' e').isSome = true → look σ.mem e = none → look σ.mem e' = none → β' e = some L → β' e' = some L' → L.g = L'.g → e = e')
    (hent : Keeps (cx C β σ w) ⟨m', β', Free C m' β' w', w'⟩ → ∀ e E, look σ.mem e = none → look m' e = some E → EntOk ⟨m', β', Free C m' β' w', w'⟩ e E) :
    Sim C β' { σ with mem := m' } as w' ∧ Keeps (cx C β σ w) ⟨m', β', Free C m' β' w', w'⟩ := by
  have hkeep : Keeps (cx C β σ w) ⟨m', β', Free C m' β' w', w'⟩ := by
    refine ⟨fun e E hE => ⟨E, (hold e E hE).1, E.like_refl⟩, fun e he => ?_, fun g hf => ⟨Nat.lt_of_lt_of_le hf.1 hg.size, ?_⟩, fun g hf => hg.block g hf.1⟩
    · cases hE : look σ.mem e with
      | none =>
        have he : (look σ.mem e).isSome = true := he
        rw [hE] at he; cases he
      | some E => exact (hold e E hE).2
    · rintro (⟨e, L, h1, h2, h3⟩ | hh)
      rotate_left
      · exact hf.2 (.inr hh)
      cases hE : look σ.mem e with
      | none =>
        have := hnew e L h1 hE h2
        have := hf.1
        omega
      | some E => exact hf.2 (.inl ⟨e, L, by rw [hE]; rfl, by rw [← (hold e E hE).2]; exact h2, h3⟩)
  refine ⟨⟨h.frm.grows hg, h.fr.mono fun _ _ hr => hr.keeps hkeep, ?_, ?_, ?_⟩, hkeep⟩
  · intro e E hE
    cases hE' : look σ.mem e with
    | none => exact hent hkeep e E hE' hE
    | some E' =>
      have := (hold e E' hE').1.symm.trans hE
      injection this with this
      subst this
      refine EntOk.keeps hkeep hE' (fun L hL => hg.block _ (h.lt hE' hL)) (h.ent e E' hE')
  · intro e e' L L' h1 h2 h3 h4 h5
    cases hE : look σ.mem e with
    | none =>
      cases hE' : look σ.mem e' with
      | none => exact hinj e e' L L' h1 h2 hE hE' h3 h4 h5
      | some E' =>
        have h6 := hnew e L h1 hE h3
        have h7 := h.lt hE' (L := L') (by rw [← (hold e' E' hE').2]; exact h4)
        omega
    | some E =>
      cases hE' : look σ.mem e' with
      | none =>
        have h6 := hnew e' L' h2 hE' h4
        have h7 := h.lt hE (L := L) (by rw [← (hold e E hE).2]; exact h3)
        omega
      | some E' => exact h.inj e e' L L' (by rw [hE]; rfl) (by rw [hE']; rfl) (by rw [← (hold e E hE).2]; exact h3) (by rw [← (hold e' E' hE').2]; exact h4) h5
  · intro e L h1 h2
    cases hE : look σ.mem e with
    | none =>
      have := hnew e L h1 hE h2
      have := h.frm.size
      exact .inl (by omega)
    | some E => exact h.own e L (by rw [hE]; rfl) (by rw [← (hold e E hE).2]; exact h2)

/-- The world has grown, nothing else. -/
theorem Sim.grows (h : Sim C β σ as w) {w' : World} (hg : Grows w w') : Sim C β σ as w' ∧ Keeps (cx C β σ w) (cx C β σ w') := by
  have := h.grow (m' := σ.mem) (β' := β) hg (fun _ _ hE => ⟨hE, rfl⟩) (fun e L h1 h2 _ => by rw [h2] at h1; cases h1) (fun e e' L L' h1 _ h3 _ _ _ _ => by rw [h3] at h1; cases h1) (fun _ e E h1 h2 => by rw [h1] at h2; cases h2)
  exact this

def setβ (β : Nat → Option Loc) (e : Nat) (L : Option Loc) : Nat → Option Loc := fun e' => if e' = e then L else β e'

theorem look_kill_self (σ : St) (e : Nat) : look (σ.kill e).mem e = none := by rw [look_kill, if_pos rfl]

/-- A new block, its entry under a name that may have been another's. -/
theorem Sim.new (h : Sim C β σ as w) (e : Nat) (E : Entry) (cs : Array Value) (el : TypeId)
    (hent : ∀ S' : Cx, Keeps (cx C β (σ.clear e) w) S' → S'.w = w.alloc (.cells cs el) → S'.β e = some ⟨w.heap.size, 0, cs.size⟩ → EntOk S' e E) :
    Sim C (setβ β e (some ⟨w.heap.size, 0, cs.size⟩)) (σ.new e E) as (w.alloc (.cells cs el)) ∧ Keeps (cx C β (σ.clear e) w) (cx C (setβ β e (some ⟨w.heap.size, 0, cs.size⟩)) (σ.new e E) (w.alloc (.cells cs el))) := by
  have hk := h.clear e
  refine hk.grow (m' := (e, E) :: (σ.clear e).mem) (Grows.alloc w _) ?_ ?_ ?_ ?_
  · intro e' E' hE
    have : e ≠ e' := by rintro rfl; rw [look_clear_self] at hE; cases hE
    exact ⟨by rw [look_cons, if_neg this]; exact hE, by simp [setβ, Ne.symm this]⟩
  · intro e' L h1 h2 h3
    by_cases he : e' = e
    · subst he; simp only [setβ, if_true, Option.some.injEq] at h3; subst h3; exact Nat.le_refl _
    · rw [look_cons, if_neg (Ne.symm he), h2] at h1; cases h1
  · intro e1 e2 L L' h1 h2 h3 h4 _ _ _
    have key : ∀ e', (look ((e, E) :: (σ.clear e).mem) e').isSome = true → look (σ.clear e).mem e' = none → e' = e := by
      intro e' h1 h2
      by_cases he : e' = e
      · exact he
      · rw [look_cons, if_neg (Ne.symm he), h2] at h1; cases h1
    rw [key e1 h1 h3, key e2 h2 h4]
  · intro hkeep e' E' h1 h2
    have : e' = e := by
      by_cases he : e' = e
      · exact he
      · rw [look_cons, if_neg (Ne.symm he), h1] at h2; cases h2
    subst this
    rw [look_cons, if_pos rfl] at h2
    injection h2 with h2
    subst h2
    exact hent _ hkeep rfl (by simp [setβ])

/-- An empty row without a block. -/
theorem Sim.newNil (h : Sim C β σ as w) (e : Nat) (t : Ty) :
    Sim C (setβ β e none) (σ.new e (.row t [])) as w ∧ Keeps (cx C β (σ.clear e) w) (cx C (setβ β e none) (σ.new e (.row t [])) w) := by
  have hk := h.clear e
  refine hk.grow (m' := (e, .row t []) :: (σ.clear e).mem) (Grows.refl w) ?_ ?_ ?_ ?_
  · intro e' E' hE
    have : e ≠ e' := by rintro rfl; rw [look_clear_self] at hE; cases hE
    exact ⟨by rw [look_cons, if_neg this]; exact hE, by simp [setβ, Ne.symm this]⟩
  · intro e' L h1 h2 h3
    by_cases he : e' = e
    · subst he; simp [setβ] at h3
    · rw [look_cons, if_neg (Ne.symm he), h2] at h1; cases h1
  · intro e1 e2 L L' h1 h2 h3 h4 _ _ _
    have key : ∀ e', (look ((e, Entry.row t []) :: (σ.clear e).mem) e').isSome = true → look (σ.clear e).mem e' = none → e' = e := by
      intro e' h1 h2
      by_cases he : e' = e
      · exact he
      · rw [look_cons, if_neg (Ne.symm he), h2] at h1; cases h1
    rw [key e1 h1 h3, key e2 h2 h4]
  · intro hkeep e' E' h1 h2
    have : e' = e := by
      by_cases he : e' = e
      · exact he
      · rw [look_cons, if_neg (Ne.symm he), h1] at h2; cases h2
    subst this
    rw [look_cons, if_pos rfl] at h2
    injection h2 with h2
    subst h2
    exact .inl ⟨rfl, by simp [setβ]⟩

/-- A store into the block of an entry; the entry keeps its shape. -/
theorem Sim.upd (h : Sim C β σ as w) {e : Nat} {E E' : Entry} {L : Loc} {w' : World} (hl : look σ.mem e = some E) (hlike : E.like E') (hL : β e = some L)
    (hos : w'.os = w.os) (htape : w'.tape = w.tape) (hout : w'.output = w.output) (hsize : w'.heap.size = w.heap.size)
    (hblock : ∀ g, g ≠ L.g → w'.heap[g]? = w.heap[g]?)
    (hent : Keeps (cx C β σ w) ⟨updE σ.mem e E', β, Free C (updE σ.mem e E') β w', w'⟩ → EntOk ⟨updE σ.mem e E', β, Free C (updE σ.mem e E') β w', w'⟩ e E') :
    Sim C β { σ with mem := updE σ.mem e E' } as w' := by
  have lk : ∀ e', look (updE σ.mem e E') e' = if e = e' then some E' else look σ.mem e' := by
    intro e'
    rw [look_updE, hl]
    by_cases he : e = e' <;> simp [he]
  have hs : ∀ e', (look (updE σ.mem e E') e').isSome = true ↔ (look σ.mem e').isSome = true := by
    intro e'
    rw [lk]
    by_cases he : e = e'
    · subst he; simp [hl]
    · simp [he]
  have hO : ∀ g, Own (updE σ.mem e E') β g ↔ Own σ.mem β g := by
    intro g
    constructor <;> rintro ⟨e', L', h1, h2, h3⟩
    · exact ⟨e', L', (hs e').1 h1, h2, h3⟩
    · exact ⟨e', L', (hs e').2 h1, h2, h3⟩
  have hne : ∀ g, Free C σ.mem β w g → g ≠ L.g := by
    rintro g hf rfl
    exact hf.2 (.inl ⟨e, L, by rw [hl]; rfl, hL, rfl⟩)
  have hkeep : Keeps (cx C β σ w) ⟨updE σ.mem e E', β, Free C (updE σ.mem e E') β w', w'⟩ := by
    refine ⟨fun e' E1 hE => ?_, fun _ _ => rfl, fun g hf => ⟨by rw [hsize]; exact hf.1, fun ho => hf.2 (ho.imp_left (hO g).1)⟩, fun g hf => hblock g (hne g hf)⟩
    by_cases he : e = e'
    · subst he
      have := hl.symm.trans hE
      injection this with this
      subst this
      exact ⟨E', by rw [lk, if_pos rfl], hlike⟩
    · exact ⟨E1, by rw [lk, if_neg he]; exact hE, E1.like_refl⟩
  refine ⟨⟨hos.trans h.frm.os, htape.trans h.frm.tape, hout.trans h.frm.output, by rw [hsize]; exact h.frm.size, fun g h1 h2 => ?_⟩, h.fr.mono fun _ _ hr => hr.keeps hkeep, ?_, ?_, ?_⟩
  · rw [hblock g ?_]
    · exact h.frm.block g h1 h2
    · rintro rfl
      rcases h.own e L (by rw [hl]; rfl) hL with h3 | h3
      · omega
      · exact h2 h3
  · intro e' E1 hE
    by_cases he : e = e'
    · subst he
      rw [lk, if_pos rfl] at hE
      injection hE with hE
      subst hE
      exact hent hkeep
    · rw [lk, if_neg he] at hE
      refine EntOk.keeps hkeep hE (fun L' hL' => hblock _ fun hg => he (h.inj e e' L L' (by rw [hl]; rfl) (by rw [hE]; rfl) hL hL' hg.symm)) (h.ent e' E1 hE)
  · intro e1 e2 L1 L2 h1 h2 h3 h4 h5
    exact h.inj e1 e2 L1 L2 ((hs e1).1 h1) ((hs e2).1 h2) h3 h4 h5
  · intro e1 L1 h1 h2
    exact h.own e1 L1 ((hs e1).1 h1) h2

/-- Some entries are forgotten. -/
theorem Sim.keepOnly (h : Sim C β σ as w) (es : List Nat) : ∀ {m' : List (Nat × Entry)}, m' = (es.filterMap fun e => (look σ.mem e).map fun x => (e, x)) → (∀ e, (look σ.mem e).isSome = true → (look m' e).isSome = true) → Sim C β { σ with mem := m' } as w := by
  rintro m' rfl hall
  have lk : ∀ e, look (es.filterMap fun e => (look σ.mem e).map fun x => (e, x)) e = if e ∈ es then look σ.mem e else none := by
    intro e
    induction es with
    | nil => rfl
    | cons a es ih =>
      have ih := fun hall => ih hall
      simp only [List.filterMap_cons]
      cases ha : look σ.mem a with
      | none =>
        simp only [Option.map_none]
        have : ∀ (es : List Nat), look (es.filterMap fun e => (look σ.mem e).map fun x => (e, x)) e = if e ∈ es then look σ.mem e else none := by
          intro es
          induction es with
          | nil => rfl
          | cons b es ih2 =>
            simp only [List.filterMap_cons]
            cases hb : look σ.mem b with
            | none =>
              simp only [Option.map_none, ih2]
              by_cases he : e = b
              · subst he; simp [hb]
              · simp [he]
            | some x =>
              simp only [Option.map_some, look_cons, ih2]
              by_cases he : b = e
              · subst he; simp [hb]
              · simp [he, Ne.symm he]
        rw [this]
        by_cases he : e = a
        · subst he; simp [ha]
        · simp [he]
      | some x =>
        have : ∀ (es : List Nat), look (es.filterMap fun e => (look σ.mem e).map fun x => (e, x)) e = if e ∈ es then look σ.mem e else none := by
          intro es
          induction es with
          | nil => rfl
          | cons b es ih2 =>
            simp only [List.filterMap_cons]
            cases hb : look σ.mem b with
            | none =>
              simp only [Option.map_none, ih2]
              by_cases he : e = b
              · subst he; simp [hb]
              · simp [he]
            | some x =>
              simp only [Option.map_some, look_cons, ih2]
              by_cases he : b = e
              · subst he; simp [hb]
              · simp [he, Ne.symm he]
        simp only [Option.map_some, look_cons, this]
        by_cases he : a = e
        · subst he; simp [ha]
        · simp [he, Ne.symm he]
  have heq : ∀ e, look (es.filterMap fun e => (look σ.mem e).map fun x => (e, x)) e = look σ.mem e := by
    intro e
    rw [lk]
    by_cases he : e ∈ es
    · simp [he]
    · cases hE : look σ.mem e with
      | none => simp [he]
      | some E =>
        have := hall e (by rw [hE]; rfl)
        rw [lk, if_neg he] at this
        cases this
  have := h.grow (m' := es.filterMap fun e => (look σ.mem e).map fun x => (e, x)) (β' := β) (Grows.refl w) (fun e E hE => ⟨by rw [heq]; exact hE, rfl⟩) (fun e L h1 h2 _ => by rw [heq, h2] at h1; cases h1) (fun e e' L L' h1 _ h3 _ _ _ _ => by rw [heq, h3] at h1; cases h1) (fun _ e E h1 h2 => by rw [heq, h1] at h2; cases h2)
  exact this.1

end
end Go.Proofs.Ytiboikgoaihccaa.R
