/-
What is done at a loop's head.
-/
import Derived.Test.YtiboikgoaihccaaR5
namespace Go.Proofs.Ytiboikgoaihccaa.R
open Go.RowKit

section
variable {C : Frm} {β : Nat → Option Loc} {σ : St} {as : List (Array Value)} {w : World}

theorem Sim.ren (h : Sim C β σ as w) (e e2 : Nat) : ∃ β', Sim C β' (σ.ren e e2) as w := by
  unfold St.ren
  cases hl : look σ.mem e with
  | none => exact ⟨β, h⟩
  | some E =>
    simp only []
    by_cases hee : e = e2
    · subst hee; simp only [beq_self_eq_true, cond_true]; exact ⟨β, h⟩
    · have hee' : (e == e2) = false := by simpa using hee
      simp only [hee', cond_false]
      have lk : ∀ e', look ((e2, E.map1 (renV e e2)) :: (dropE (dropE σ.mem e) e2).map fun p => (p.1, p.2.map1 (renV e e2))) e' = if e' = e2 then some (E.map1 (renV e e2)) else if e' = e then none else (look σ.mem e').map (Entry.map1 (renV e e2)) := by
        intro e'
        rw [look_cons]
        by_cases h1 : e' = e2
        · subst h1; simp
        · rw [if_neg (Ne.symm h1), if_neg h1, look_map, look_dropE_other _ h1]
          by_cases h2 : e' = e
          · subst h2; simp [look_dropE_same]
          · rw [look_dropE_other _ h2, if_neg h2]
      have key : (∀ gg, Free C σ.mem β w gg → Free C ((e2, E.map1 (renV e e2)) :: (dropE (dropE σ.mem e) e2).map fun p => (p.1, p.2.map1 (renV e e2))) (setβ β e2 (β e)) w gg) → ∀ v x, V0 (cx C β σ w) v x → V0 ⟨(e2, E.map1 (renV e e2)) :: (dropE (dropE σ.mem e) e2).map fun p => (p.1, p.2.map1 (renV e e2)), setβ β e2 (β e), Free C ((e2, E.map1 (renV e e2)) :: (dropE (dropE σ.mem e) e2).map fun p => (p.1, p.2.map1 (renV e e2))) (setβ β e2 (β e)) w, w⟩ (renV e e2 v) x := by
        intro hF v x hv
        have lk2 : look ((e2, E.map1 (renV e e2)) :: (dropE (dropE σ.mem e) e2).map fun p => (p.1, p.2.map1 (renV e e2))) e2 = some (E.map1 (renV e e2)) := by rw [lk, if_pos rfl]
        have hb : setβ β e2 (β e) e2 = β e := by simp [setβ]
        by_cases hr : refOf v = some e
        · cases v <;> simp only [refOf, Option.some.injEq, reduceCtorEq] at hr <;> subst hr
          · rename_i e
            obtain ⟨t, l, hl', hs⟩ := hv
            have := hl.symm.trans hl'
            injection this with this
            subst this
            simp only [renV, beq_self_eq_true, cond_true]
            exact ⟨t, l, lk2, by show SlAt (setβ β e2 (β e) e2) _ _ _ _; rw [hb]; exact hs⟩
          · rename_i e o n
            obtain ⟨t, l, hl', ho, hs, hcap⟩ := hv
            have := hl.symm.trans hl'
            injection this with this
            subst this
            simp only [renV, beq_self_eq_true, cond_true]
            exact ⟨t, l, lk2, ho, by show SlAt (setβ β e2 (β e) e2) _ _ _ _; rw [hb]; exact hs, hcap⟩
          · rename_i e i o
            obtain ⟨E1, L, hl', hL, hx⟩ := hv
            have := hl.symm.trans hl'
            injection this with this
            subst this
            simp only [renV, beq_self_eq_true, cond_true]
            refine ⟨_, L, lk2, hb.trans hL, ?_⟩
            cases E <;> exact hx
        · by_cases hr2 : refOf v = some e2
          · cases v <;> simp only [refOf, Option.some.injEq, reduceCtorEq] at hr2 <;> subst hr2
            · rename_i e2
              have : (e2 == e) = false := by simpa using Ne.symm hee
              simp [renV, this, V0]
            · rename_i e2 _ _
              have : (e2 == e) = false := by simpa using Ne.symm hee
              simp [renV, this, V0]
            · rename_i e2 _ _
              have : (e2 == e) = false := by simpa using Ne.symm hee
              simp [renV, this, V0]
          · rw [renV_other hr hr2]
            refine V0.other (S := cx C β σ w) (S' := ⟨_, setβ β e2 (β e), _, w⟩) (g := renV e e2) hF (fun _ _ => rfl) hv fun e' he' => ⟨?_, ?_⟩
            · show look ((e2, E.map1 (renV e e2)) :: (dropE (dropE σ.mem e) e2).map fun p => (p.1, p.2.map1 (renV e e2))) e' = _
              rw [lk, if_neg (fun he => hr2 (by rw [he', he])), if_neg (fun he => hr (by rw [he', he]))]
            · show setβ β e2 (β e) e' = β e'
              simp only [setβ]
              rw [if_neg (fun he => hr2 (by rw [he', he]))]
      refine ⟨setβ β e2 (β e), h.map (renV e e2) ((e2, E.map1 (renV e e2)) :: (dropE (dropE σ.mem e) e2).map fun (p : Nat × Entry) => (p.1, p.2.map1 (renV e e2))) (setβ β e2 (β e)) (fun e' => if e' = e2 then e else e') rfl ?_ ?_ key ?_⟩
      · intro e' h1
        by_cases h2 : e' = e2
        · subst h2
          simp only [if_true]
          exact ⟨by rw [hl]; rfl, fun L hL => ⟨L, by simpa [setβ] using hL, rfl⟩⟩
        · rw [lk, if_neg h2] at h1
          simp only [h2, if_false]
          by_cases h3 : e' = e
          · simp [h3] at h1
          · rw [if_neg h3] at h1
            exact ⟨by simpa using h1, fun L hL => ⟨L, by simpa [setβ, h2] using hL, rfl⟩⟩
      · intro e1 e3 h1 h3 h4
        have hne : ∀ e', (look ((e2, E.map1 (renV e e2)) :: (dropE (dropE σ.mem e) e2).map fun p => (p.1, p.2.map1 (renV e e2))) e').isSome = true → e' ≠ e := by
          rintro e' h1 rfl
          rw [lk, if_neg hee, if_pos rfl] at h1
          cases h1
        by_cases h5 : e1 = e2 <;> by_cases h6 : e3 = e2
        · rw [h5, h6]
        · simp only [h5, h6, if_true, if_false] at h4; exact absurd h4.symm (hne e3 h3)
        · simp only [h5, h6, if_true, if_false] at h4; exact absurd h4 (hne e1 h1)
        · simpa [h5, h6] using h4
      · intro hF e' E' hE
        by_cases h2 : e' = e2
        · subst h2
          rw [lk, if_pos rfl] at hE
          injection hE with hE
          subst hE
          exact (h.ent e E hl).map (S := cx C β σ w) (e := e) (key hF) hF (fun _ _ => rfl) (fun _ _ => rfl) (by simp [setβ])
        · rw [lk, if_neg h2] at hE
          by_cases h3 : e' = e
          · simp [h3] at hE
          · rw [if_neg h3] at hE
            cases hl' : look σ.mem e' with
            | none => simp [hl'] at hE
            | some E1 =>
              simp only [hl', Option.map_some, Option.some.injEq] at hE
              subst hE
              exact (h.ent e' E1 hl').map (S := cx C β σ w) (e := e') (key hF) hF (fun _ _ => rfl) (fun _ _ => rfl) (by simp [setβ, h2])

theorem rebV_other {e o n : Nat} {v : V} (h : refOf v ≠ some e) : rebV e o n v = v := by
  cases v <;> first | rfl | (simp only [refOf, ne_eq, Option.some.injEq] at h; rw [← Ne, ← beq_eq_false_iff_ne] at h; simp [rebV, killV, h])

theorem Sim.reb (h : Sim C β σ as w) {e o n : Nat} {t : Ty} {l : List t.den} (hl : look σ.mem e = some (.row t l)) (ho : o + n ≤ l.length) :
    ∃ β', Sim C β' (let σ := σ.map1 (rebV e o n); { σ with mem := updE σ.mem e (.row t ((l.drop o).take n)) }) as w := by
  have hlen : ((l.drop o).take n).length = n := by simp; omega
  have lk : ∀ e', look (updE (σ.mem.map fun p => (p.1, p.2.map1 (rebV e o n))) e (.row t ((l.drop o).take n))) e' = if e' = e then some (.row t ((l.drop o).take n)) else (look σ.mem e').map (Entry.map1 (rebV e o n)) := by
    intro e'
    rw [look_updE, look_map, hl]
    by_cases he : e' = e
    · subst he; simp
    · rw [if_neg (fun hh => he hh.1.symm), look_map, if_neg he]
  let β' : Nat → Option Loc := setβ β e ((β e).map fun L => ⟨L.g, L.base + o * t.size, L.cells⟩)
  have hs : ∀ e', (look (updE (σ.mem.map fun p => (p.1, p.2.map1 (rebV e o n))) e (.row t ((l.drop o).take n))) e').isSome = true → (look σ.mem e').isSome = true := by
    intro e' h1
    rw [lk] at h1
    by_cases he : e' = e
    · subst he; rw [hl]; rfl
    · simpa [he] using h1
  have hβ' : ∀ e' L', β' e' = some L' → ∃ L, β e' = some L ∧ L'.g = L.g := by
    intro e' L' h1
    by_cases he : e' = e
    · subst he
      simp only [β', setβ, if_true, Option.map_eq_some_iff] at h1
      obtain ⟨L, h2, rfl⟩ := h1
      exact ⟨L, h2, rfl⟩
    · simp only [β', setβ, he, if_false] at h1
      exact ⟨L', h1, rfl⟩
  have key : (∀ gg, Free C σ.mem β w gg → Free C (updE (σ.mem.map fun p => (p.1, p.2.map1 (rebV e o n))) e (.row t ((l.drop o).take n))) β' w gg) → ∀ v x, V0 (cx C β σ w) v x → V0 ⟨updE (σ.mem.map fun p => (p.1, p.2.map1 (rebV e o n))) e (.row t ((l.drop o).take n)), β', Free C (updE (σ.mem.map fun p => (p.1, p.2.map1 (rebV e o n))) e (.row t ((l.drop o).take n))) β' w, w⟩ (rebV e o n v) x := by
    intro hF v x hv
    by_cases hr : refOf v = some e
    · cases v <;> simp only [refOf, Option.some.injEq, reduceCtorEq] at hr <;> subst hr
      · simp [rebV, killV, V0]
      · rename_i e o' n'
        simp only [rebV, beq_self_eq_true, cond_true]
        by_cases hon : o' = o ∧ n' = n
        · obtain ⟨rfl, rfl⟩ := hon
          simp only [beq_self_eq_true, Bool.and_true, cond_true]
          obtain ⟨t', l', hl', _, hs, _⟩ := hv
          have := hl.symm.trans hl'
          injection this with this
          injection this with h1 h2
          subst h1
          refine ⟨t, _, by rw [lk, if_pos rfl], ?_⟩
          rw [hlen]
          obtain ⟨A, c, hx, hc, hh⟩ := hs
          refine ⟨A, c, hx, hc, ?_⟩
          rcases hh with hh | ⟨L, hL, hA, hfit⟩
          · exact .inl hh
          · have hL : β e = some L := hL
            refine .inr ⟨⟨L.g, L.base + o' * t.size, L.cells⟩, by simp [β', setβ, hL], by simpa using hA, ?_⟩
            show L.base + o' * t.size + (0 + c) * t.size ≤ L.cells
            rw [Nat.add_mul] at hfit
            simp only [Nat.zero_add]; omega
        · have : (o' == o && n' == n) = false := by
            rw [Bool.eq_false_iff]
            intro hh
            simp only [Bool.and_eq_true, beq_iff_eq] at hh
            exact hon hh
          simp [this, V0]
      · simp [rebV, killV, V0]
    · rw [rebV_other hr]
      refine V0.other (S := cx C β σ w) (S' := ⟨_, β', _, w⟩) (g := rebV e o n) hF (fun _ _ => rfl) hv fun e' he' => ⟨?_, ?_⟩
      · show look (updE (σ.mem.map fun p => (p.1, p.2.map1 (rebV e o n))) e (.row t ((l.drop o).take n))) e' = _
        rw [lk, if_neg (fun he => hr (by rw [he', he]))]
      · show β' e' = β e'
        simp only [β', setβ]
        rw [if_neg (fun he => hr (by rw [he', he]))]
  refine ⟨β', h.map (rebV e o n) (updE (σ.mem.map fun (p : Nat × Entry) => (p.1, p.2.map1 (rebV e o n))) e (.row t ((l.drop o).take n))) β' id rfl (fun e' h1 => ⟨hs e' h1, fun L' hL' => hβ' e' L' hL'⟩) (fun _ _ _ _ h1 => h1) key fun hF e' E' hE => ?_⟩
  by_cases he : e' = e
  · subst he
    rw [lk, if_pos rfl] at hE
    injection hE with hE
    subst hE
    rcases h.ent e' _ hl with ⟨h0, h1⟩ | ⟨L, cs, el, h1, h2, h3, h4, h5⟩
    · have h1 : β e' = none := h1
      exact .inl ⟨by subst h0; simp, by simp [β', setβ, h1]⟩
    · have h1 : β e' = some L := h1
      refine .inr ⟨⟨L.g, L.base + o * t.size, L.cells⟩, cs, el, by simp [β', setβ, h1], h2, h3, ?_, fun i x hx => ?_⟩
      · rw [hlen]
        show L.base + o * t.size + n * t.size ≤ L.cells
        have := Nat.mul_le_mul_right t.size ho
        rw [Nat.add_mul] at this
        have h4 : L.base + l.length * t.size ≤ L.cells := h4
        omega
      · have hi : i < n := by
          rcases Nat.lt_or_ge i n with h' | h'
          · exact h'
          · rw [List.getElem?_eq_none (by omega)] at hx; cases hx
        rw [List.getElem?_take_of_lt hi, List.getElem?_drop] at hx
        obtain ⟨zs, hz, hcell⟩ := h5 (o + i) x hx
        refine ⟨zs, hz.mono hF (fun _ _ => rfl), fun j z hj => ?_⟩
        have := hcell j z hj
        rw [← this]
        congr 1
        show L.base + o * t.size + i * t.size + j = _
        rw [Nat.add_mul]; omega
  · rw [lk, if_neg he] at hE
    cases hl' : look σ.mem e' with
    | none => simp [hl'] at hE
    | some E =>
      simp only [hl', Option.map_some, Option.some.injEq] at hE
      subst hE
      exact (h.ent e' E hl').map (S := cx C β σ w) (e := e') (key hF) hF (fun _ _ => rfl) (fun _ _ => rfl) (by simp [β', setβ, he])

theorem Sim.setUndef {a : Array Value} (h : Sim C β σ (a :: as) w) (t : Nat) : Sim C β (σ.set t .undef) (a :: as) w := by
  refine ⟨h.frm, ⟨⟨by simpa [St.set] using h.top.1, fun s => ?_⟩, h.fr.2⟩, h.ent, h.inj, h.own⟩
  have h0 := h.top.2 s
  show V3 _ ((σ.fr.set t .undef).getD s .undef) _
  simp only [List.getD_eq_getElem?_getD, List.getElem?_set]
  by_cases hs : t = s
  · subst hs
    by_cases hb : t < σ.fr.length
    · simp only [if_true, hb, Option.getD_some]; exact V3.undef
    · simp only [if_true, hb, if_false, Option.getD_none]; exact V3.undef
  · simp only [hs, if_false]
    rw [List.getD_eq_getElem?_getD] at h0
    exact h0

theorem Sim.onlyG {as : List (Array Value)} (h : Sim C β σ as w) (es : List Nat) (m : List (Nat × Entry)) : Sim C β (m.foldl (fun τ p => bif es.contains p.1 then τ else τ.kill p.1) σ) as w := by
  induction m generalizing σ with
  | nil => exact h
  | cons p m ih =>
    simp only [List.foldl_cons]
    refine ih ?_
    cases es.contains p.1
    · exact h.kill p.1
    · exact h

theorem Sim.keepG {a : Array Value} (h : Sim C β σ (a :: as) w) (es : List Nat) : ∃ β', Sim C β' (doGhost σ (.keep es)) (a :: as) w := by
  simp only [doGhost]
  cases hc : σ.mem.all fun p => es.contains p.1 with
  | false => exact ⟨β, h⟩
  | true =>
    refine ⟨β, h.keepOnly es rfl fun e he => ?_⟩
    have hmem : e ∈ es := by
      have : ∀ (m : List (Nat × Entry)), (m.all fun p => es.contains p.1) = true → (look m e).isSome = true → e ∈ es := by
        intro m
        induction m with
        | nil => intro _ h; cases h
        | cons p m ih =>
          intro h1 h2
          simp only [List.all_cons, Bool.and_eq_true] at h1
          obtain ⟨k, x⟩ := p
          rw [look_cons] at h2
          by_cases hk : k = e
          · subst hk; simpa using h1.1
          · rw [if_neg hk] at h2; exact ih h1.2 h2
      exact this _ hc he
    have : ∀ (es : List Nat), e ∈ es → (look (es.filterMap fun e => (look σ.mem e).map fun x => (e, x)) e).isSome = true := by
      intro es
      induction es with
      | nil => intro h; cases h
      | cons b es ih =>
        intro h1
        simp only [List.filterMap_cons]
        by_cases hb : e = b
        · subst hb
          cases hE : look σ.mem e with
          | none => rw [hE] at he; cases he
          | some x => simp [look_cons]
        · have h2 := ih (by simpa [hb] using h1)
          cases look σ.mem b with
          | none => simpa using h2
          | some x => simpa [look_cons, Ne.symm hb] using h2
    exact this es hmem


theorem Sim.nameRef (h : Sim C β σ as w) (v : V) (e2 : Nat) : ∃ β', Sim C β' (nameRef σ v e2) as w := by
  unfold R.nameRef
  split
  · exact h.ren _ e2
  · exact ⟨β, h⟩

theorem Sim.nameCells {base res : Nat} : ∀ (vs : List V) {c : Nat} {β : Nat → Option Loc} {σ : St}, Sim C β σ as w → ∃ β', Sim C β' (nameCells base res c vs σ) as w
  | [], _, β, _, h => ⟨β, h⟩
  | v :: vs, c, _, _, h => by
    obtain ⟨β', h'⟩ := h.nameRef v ((base * 4096 + c) * 64 + res)
    exact Sim.nameCells vs h'

theorem Sim.nameSlots {d : Nat} : ∀ (vs : List V) {s : Nat} {β : Nat → Option Loc} {σ : St}, Sim C β σ as w → ∃ β', Sim C β' (nameSlots d s vs σ) as w
  | [], _, β, _, h => ⟨β, h⟩
  | v :: vs, s, _, _, h => by
    obtain ⟨β', h'⟩ := Sim.nameCells (base := d * 4096 + s) (res := 16) v.cells (c := 0) h
    exact Sim.nameSlots vs h'

theorem Sim.nameOuts : ∀ (frs : List (List V)) {d : Nat} {β : Nat → Option Loc} {σ : St}, Sim C β σ as w → ∃ β', Sim C β' (nameOuts d frs σ) as w
  | [], _, β, _, h => ⟨β, h⟩
  | fr :: frs, d, _, _, h => by
    obtain ⟨β', h'⟩ := Sim.nameSlots (d := d + 1) fr (s := 0) h
    exact Sim.nameOuts frs h'

theorem Sim.nameBoxes : ∀ (m : List (Nat × Entry)) {β : Nat → Option Loc} {σ : St}, Sim C β σ as w → ∃ β', Sim C β' (nameBoxes m σ) as w
  | [], β, _, h => ⟨β, h⟩
  | (e, .box cs) :: m, _, _, h => by
    obtain ⟨β', h'⟩ := Sim.nameCells (base := e) (res := 48) cs (c := 0) h
    exact Sim.nameBoxes m h'
  | (e, .row t l) :: m, _, _, h => Sim.nameBoxes m h

theorem Sim.awayNames : ∀ (m : List (Nat × Entry)) {β : Nat → Option Loc} {σ : St}, Sim C β σ as w → ∃ β', Sim C β' (awayNames m σ) as w
  | [], β, _, h => ⟨β, h⟩
  | (e, x) :: m, β, σ, h => by
    simp only [R.awayNames]
    cases Nat.ble 16 (e % 64) with
    | false => exact Sim.awayNames m h
    | true =>
      obtain ⟨β', h'⟩ := h.ren e (e * 64 + 32)
      exact Sim.awayNames m h'

theorem Sim.ghost {a : Array Value} (h : Sim C β σ (a :: as) w) (g : Ghost) : ∃ β', Sim C β' (doGhost σ g) (a :: as) w := by
  cases g with
  | kill ts =>
    refine ⟨β, ?_⟩
    simp only [doGhost]
    induction ts generalizing σ with
    | nil => exact h
    | cons t ts ih => exact ih (h.setUndef t)
  | frz s c =>
    simp only [doGhost]
    split
    · exact ⟨β, h.frz1 _⟩
    · exact ⟨β, h⟩
  | reb s =>
    simp only [doGhost]
    split
    · rename_i e o n hs
      split
      · rename_i t l hl
        have h1 := h.get s
        rw [hs] at h1
        obtain ⟨t', l', hl', ho, _⟩ := h1
        have := hl.symm.trans hl'
        injection this with this
        injection this with h2 h3
        subst h2
        have h3 := eq_of_heq h3
        subst h3
        exact h.reb hl ho
      · exact ⟨β, h⟩
    · exact ⟨β, h⟩
  | ren e e2 => exact h.ren e e2
  | drop e => exact ⟨β, h.kill e⟩
  | nameS s c e2 =>
    simp only [doGhost]
    split
    · split
      · exact h.ren _ e2
      · exact ⟨β, h⟩
    · exact ⟨β, h⟩
  | only es => exact ⟨β, h.onlyG es _⟩
  | tidy =>
    simp only [doGhost]
    cases σ.mem.isEmpty with
    | true => exact ⟨β, h⟩
    | false =>
    obtain ⟨β1, h1⟩ := Sim.awayNames σ.mem h
    obtain ⟨β2, h2⟩ := Sim.nameSlots (d := 0) (R.awayNames σ.mem σ).fr (s := 0) h1
    obtain ⟨β5, h5⟩ := Sim.nameOuts (d := 0) (R.awayNames σ.mem σ).outs h2
    obtain ⟨β3, h3⟩ := Sim.nameBoxes _ h5
    obtain ⟨β4, h4⟩ := Sim.nameBoxes _ h3
    exact (h4.onlyG _ _).keepG _
  | keep es => exact h.keepG es

theorem Sim.ghosts {a : Array Value} (gs : List Ghost) : ∀ {β : Nat → Option Loc} {σ : St}, Sim C β σ (a :: as) w → ∃ β', Sim C β' (doGhosts σ gs) (a :: as) w := by
  induction gs with
  | nil => intro β σ h; exact ⟨β, h⟩
  | cons g gs ih =>
    intro β σ h
    obtain ⟨β', h'⟩ := h.ghost g
    exact ih h'

end
end Go.Proofs.Ytiboikgoaihccaa.R
