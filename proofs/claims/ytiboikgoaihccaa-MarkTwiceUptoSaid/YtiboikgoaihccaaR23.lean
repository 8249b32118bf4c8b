/-
A function as a whole.
-/
import Derived.Test.YtiboikgoaihccaaR22
namespace Go.Proofs.Ytiboikgoaihccaa.R
open Go.RowKit
set_option linter.unusedVariables false

section
variable {P : Program} {E : Env} {C : Frm} {β : Nat → Option Loc} {σ : St} {as : List (Array Value)} {w w' : World} {R : Type} {r : R}

def Told (m : List (Nat × Entry)) (p : Nat × Nat) (E : Entry) : Prop := ∃ (t : Ty) (l0 : List t.den) (n : Nat), look m p.1 = some (.row t l0) ∧ p.2 + n ≤ l0.length ∧ E = .row t ((l0.drop p.2).take n)

theorem told2 {v x : V} {y : Value} (hv : V2 (cx C β σ w) v y) (he : own2 σ.mem v = some x) : All2 (Told σ.mem) (srcs v.cells) (owns x.cells) := by
  have hc := (own2_cells he).1
  rcases V2.cases hv with ⟨cs, rfl, ys, rfl, ha⟩ | ⟨hag, h1⟩
  · exact own_srcs (fun _ _ _ _ => trivial) _ _ ha hc
  · have e1 : v.cells = [v] := by cases v <;> first | rfl | simp [V.isAgg] at hag
    rw [e1] at hc ⊢
    exact own_srcs (ys := [y]) (fun _ _ _ _ => trivial) _ _ ⟨h1, trivial⟩ hc

theorem toldT : ∀ (vs rs : List V) {ys : List Value}, All2 (V2 (cx C β σ w)) vs ys → allS (own2 σ.mem) vs = some rs → All2 (Told σ.mem) (srcs (vs.flatMap V.cells)) (owns (rs.flatMap V.cells))
  | [], rs, ys, ha, he => by
    simp only [allS, Option.some.injEq] at he
    subst he
    exact trivial
  | v :: vs, rs, ys, ha, he => by
    cases ys with
    | nil => exact ha.elim
    | cons y ys =>
      simp only [allS] at he
      cases h1 : own2 σ.mem v with
      | none => rw [h1] at he; cases he
      | some x =>
        rw [h1] at he
        cases h2 : allS (own2 σ.mem) vs with
        | none => rw [h2] at he; cases he
        | some xs =>
          rw [h2] at he
          simp only [Option.some.injEq] at he
          subst he
          rw [List.flatMap_cons, List.flatMap_cons, srcs_append, owns_append]
          exact (told2 ha.1 h1).append (toldT vs xs ha.2 h2)

theorem nodupB_inj : ∀ {l : List Nat}, nodupB l = true → ∀ {i j x : Nat}, l[i]? = some x → l[j]? = some x → i = j
  | [], _, i, j, x, h, _ => by simp at h
  | a :: l, hn, i, j, x, hi, hj => by
    simp only [nodupB, Bool.and_eq_true, Bool.not_eq_true', List.contains_eq_mem, decide_eq_false_iff_not] at hn
    cases i with
    | zero =>
      cases j with
      | zero => rfl
      | succ j =>
        simp only [List.getElem?_cons_zero, Option.some.injEq, List.getElem?_cons_succ] at hi hj
        subst hi
        exact absurd (List.mem_of_getElem? hj) hn.1
    | succ i =>
      cases j with
      | zero =>
        simp only [List.getElem?_cons_zero, Option.some.injEq, List.getElem?_cons_succ] at hi hj
        subst hj
        exact absurd (List.mem_of_getElem? hi) hn.1
      | succ j =>
        simp only [List.getElem?_cons_succ] at hi hj
        rw [nodupB_inj hn.2 hi hj]

/-- The frame of a call that may read the blocks of B. -/
def frmOf (B : Nat → Prop) (w : World) : Frm := ⟨w, fun _ => False, fun g => g < w.heap.size ∧ ¬ B g, fun g hg => ⟨hg.1, fun h => h⟩⟩

theorem give_sound {B : Nat → Prop} {w0 : World} (h : Sim (frmOf B w0) β σ as w) {v x : V} {y : Value} (hv : V3 (cx (frmOf B w0) β σ w) v y) (he : give σ.mem v = some x) : Ret B w0 w x y := by
  unfold give at he
  obtain ⟨hnd, he'⟩ := cond_some he
  clear he
  have he := he'
  clear he'
  have htold : All2 (Told σ.mem) (srcs v.flat) (owns x.flat) := by
    rcases V3.cases hv with ⟨vs, rfl, ys, rfl, ha⟩ | ⟨ht, h2⟩
    · simp only [Option.map_eq_some_iff] at he
      obtain ⟨rs, he, rfl⟩ := he
      exact toldT vs rs ha he
    · have he2 : own2 σ.mem v = some x := by cases v <;> first | exact he | simp [V.isTup] at ht
      have e1 : v.flat = v.cells := by cases v <;> first | rfl | simp [V.isTup] at ht
      have e2 : x.flat = x.cells := by
        have := (own2_cells he2).2.2
        cases x <;> first | rfl | simp [V.isTup] at this
      rw [e1, e2]
      exact told2 h2 he2
  have hLs : ∀ (k : Nat) L, ((srcs v.flat).map (shiftL σ.mem β))[k]? = some (some L) → ∃ p E L0, (srcs v.flat)[k]? = some p ∧ look σ.mem p.1 = some E ∧ β p.1 = some L0 ∧ L.g = L0.g := by
    intro k L hL
    rw [List.getElem?_map, Option.map_eq_some_iff] at hL
    obtain ⟨p, hp, hs⟩ := hL
    unfold shiftL at hs
    split at hs
    · rename_i t l hl
      rw [Option.map_eq_some_iff] at hs
      obtain ⟨L0, h0, rfl⟩ := hs
      exact ⟨p, _, L0, hp, hl, h0, rfl⟩
    · cases hs
  have hF : ∀ g, Free (frmOf B w0) σ.mem β w g → RetF B w0 w ((srcs v.flat).map (shiftL σ.mem β)) g := by
    rintro g ⟨h1, h2⟩
    refine ⟨h1, ?_, fun k L hL hg => ?_⟩
    · by_cases hb : B g
      · exact .inl hb
      · rcases Nat.lt_or_ge g w0.heap.size with h3 | h3
        · exact absurd (.inr ⟨h3, hb⟩) h2
        · exact .inr h3
    · obtain ⟨p, E, L0, hp, hl, h0, hgg⟩ := hLs k L hL
      exact h2 (.inl ⟨p.1, L0, by rw [hl]; rfl, h0, by rw [← hgg, hg]⟩)
  refine ⟨⟨h.frm.os, h.frm.tape, h.frm.output, h.frm.size, fun g hg => h.frm.block g hg (fun hh => hh)⟩, (srcs v.flat).map (shiftL σ.mem β), ?_, ?_, ?_, ?_, ?_⟩
  · rw [List.length_map]; exact htold.length
  · intro nm
    have hM : ∀ i p E, (srcs v.flat)[i]? = some p → (owns x.flat)[i]? = some E → look (addE nm (owns x.flat) []) (nm + i) = some E ∧ numβ nm ((srcs v.flat).map (shiftL σ.mem β)) (nm + i) = shiftL σ.mem β p := by
      intro i p E hp hE
      constructor
      · rw [look_addE, if_pos ⟨by omega, by have := (List.getElem?_eq_some_iff.1 hE).1; omega⟩, Nat.add_sub_cancel_left]; exact hE
      · simp only [numβ]
        rw [if_pos (by omega), Nat.add_sub_cancel_left, List.getElem?_map, hp]; rfl
    rcases V3.cases hv with ⟨vs, rfl, ys, rfl, ha⟩ | ⟨ht, h2⟩
    · simp only [Option.map_eq_some_iff] at he
      obtain ⟨rs, he, rfl⟩ := he
      exact ⟨ys, rfl, own_valT hF vs rs nm ha he hM⟩
    · have he2 : own2 σ.mem v = some x := by cases v <;> first | exact he | simp [V.isTup] at ht
      have e1 : v.flat = v.cells := by cases v <;> first | rfl | simp [V.isTup] at ht
      have hxt := (own2_cells he2).2.2
      have e2 : x.flat = x.cells := by cases x <;> first | rfl | simp [V.isTup] at hxt
      have e3 : relab nm x = relab2 nm x := by cases x <;> first | rfl | simp [V.isTup] at hxt
      rw [e3]
      refine V3.of2 (own2_val hF h2 he2 fun i p E hp hE => hM i p E (by rw [e1]; exact hp) (by rw [e2]; exact hE))
  · intro k E hE
    obtain ⟨p, hp, t, l0, n, hl, hn, rfl⟩ := htold.getL hE
    have hlen : ((l0.drop p.2).take n).length = n := by simp; omega
    have hent := h.ent p.1 _ hl
    have hjoin : (((srcs v.flat).map (shiftL σ.mem β))[k]?).join = shiftL σ.mem β p := by rw [List.getElem?_map, hp]; rfl
    rcases hent with ⟨h0, h1⟩ | ⟨L, cs, el, h1, h2, h3, h4, h5⟩
    · have h1 : β p.1 = none := h1
      refine .inl ⟨by subst h0; simp, ?_⟩
      show (((srcs v.flat).map (shiftL σ.mem β))[k]?).join = none
      rw [hjoin, shiftL, hl, h1]; rfl
    · have h1 : β p.1 = some L := h1
      refine .inr ⟨⟨L.g, L.base + p.2 * t.size, L.cells⟩, cs, el, ?_, h2, h3, ?_, fun i z hz => ?_⟩
      · show (((srcs v.flat).map (shiftL σ.mem β))[k]?).join = _
        rw [hjoin, shiftL, hl, h1]; rfl
      · rw [hlen]
        show L.base + p.2 * t.size + n * t.size ≤ L.cells
        have := Nat.mul_le_mul_right t.size hn
        rw [Nat.add_mul] at this
        have h4 : L.base + l0.length * t.size ≤ L.cells := h4
        omega
      · have hi : i < n := by
          have := (List.getElem?_eq_some_iff.1 hz).1
          omega
        rw [List.getElem?_take_of_lt hi, List.getElem?_drop] at hz
        obtain ⟨zs, hzs, hcell⟩ := h5 (p.2 + i) z hz
        refine ⟨zs, hzs.mono hF (fun _ _ => rfl), fun j u hj => ?_⟩
        have := hcell j u hj
        rw [← this]
        congr 1
        show L.base + p.2 * t.size + i * t.size + j = _
        rw [Nat.add_mul]; omega
  · intro k k' L L' hL hL' hg
    obtain ⟨p, E, L0, hp, hl, h0, hgg⟩ := hLs k L hL
    obtain ⟨p', E', L0', hp', hl', h0', hgg'⟩ := hLs k' L' hL'
    have he : p.1 = p'.1 := h.inj p.1 p'.1 L0 L0' (by rw [hl]; rfl) (by rw [hl']; rfl) h0 h0' (by rw [← hgg, ← hgg', hg])
    refine nodupB_inj hnd (x := p.1) ?_ ?_
    · rw [List.getElem?_map, hp]; rfl
    · rw [List.getElem?_map, hp', he]; rfl
  · intro k L hL
    obtain ⟨p, E, L0, hp, hl, h0, hgg⟩ := hLs k L hL
    rcases h.own p.1 L0 (by rw [hl]; rfl) h0 with h1 | h1
    · rw [hgg]; exact h1
    · exact h1.elim

/-! ### Results -/
theorem run_results_one {fn : Func} {t : Nat} (h : fn.results.toList = [ResultVar.tmp t]) (tmps : Array Value) (w : World) : (results fn tmps).run P w = .ok (tmps.getD t undef) w := by
  have : fn.results = #[ResultVar.tmp t] := by rw [← Array.toList_inj, h]
  simp [results, this]

def resVar (tmps : Array Value) : ResultVar → Sem Value
  | .tmp t => pure (tmps.getD t undef)
  | .cell a t => do loadVar t (← asAddr (tmps.getD a undef))

theorem results_eq (fn : Func) (tmps : Array Value) : results fn tmps = (do
    let vs ← fn.results.mapM (resVar tmps)
    pure (if h : vs.size = 1 then vs[0] else .tuple vs)) := rfl

theorem run_cellVar {tt : Nat → TI} (hT : TtOk P tt) {a : Array Value} (h : Sim C β σ (a :: as) w) {t ty : Nat} {cs : List V} (hc : loadC σ (σ.get t) (tt ty).size = some cs) :
    ∃ y, (resVar a (.cell t ty)).run P w = .ok y w ∧ V3 (cx C β σ w) (asV (tt ty).agg cs) y := by
  obtain ⟨ad, ys, hx, hn, hs, ha, hcell⟩ := loadC_rel h (h.get t) hc
  have hl : ys.length = (tt ty).size := by rw [← ha.length, hn]
  have hr := run_loadAt' hT hs hl hcell
  refine ⟨if (tt ty).agg then .agg ys.toArray else ys.headD undef, ?_, ?_⟩
  · have hx' : a.getD t undef = .pointer (some ad) := hx
    simp only [resVar, hx', Sem.run_bind, asAddr]
    simpa [Instr.loadAt, Instr.sureAddr] using hr
  · have := V3_asV (S := cx C β σ w) (g := (tt ty).agg) (cs := cs) (ys := ys.toArray) (by simpa using ha) (fun hg => by rw [hn]; exact hT.one ty hs hg)
    simpa using this

theorem resultVs_rel {tt : Nat → TI} (hT : TtOk P tt) {a : Array Value} (h : Sim C β σ (a :: as) w) : ∀ {rs : List ResultVar} {vs : List V}, resultVs tt σ rs = some vs →
    ∃ ys : List Value, (rs.mapM (resVar a)).run P w = .ok ys w ∧ All2 (V3 (cx C β σ w)) vs ys
  | [], vs, he => by
    simp only [resultVs, Option.some.injEq] at he
    subst he
    exact ⟨[], rfl, trivial⟩
  | .tmp t :: rs, vs, he => by
    simp only [resultVs] at he
    cases h1 : resultVs tt σ rs with
    | none => rw [h1] at he; cases he
    | some us =>
      rw [h1] at he
      simp only [Option.some.injEq] at he
      subst he
      obtain ⟨ys, hy, ha⟩ := resultVs_rel hT h h1
      refine ⟨a.getD t undef :: ys, ?_, h.get t, ha⟩
      simp only [List.mapM_cons, resVar, Sem.run_bind, Sem.run_pure, Result.andThen_ok, hy]
  | .cell t ty :: rs, vs, he => by
    simp only [resultVs] at he
    split at he
    · rename_i cs us h2 h1
      simp only [Option.some.injEq] at he
      subst he
      obtain ⟨ys, hy, ha⟩ := resultVs_rel hT h h1
      obtain ⟨y, hy1, hv⟩ := run_cellVar hT h h2
      refine ⟨y :: ys, ?_, hv, ha⟩
      simp only [List.mapM_cons, Sem.run_bind, hy1, Sem.run_pure, Result.andThen_ok, hy]
    · cases he

theorem run_results {tt : Nat → TI} (hT : TtOk P tt) {a : Array Value} {fn : Func} {v : V} (h : Sim C β σ (a :: as) w) (he : resultV tt σ fn = some v) : ∃ y, (results fn a).run P w = .ok y w ∧ V3 (cx C β σ w) v y := by
  have gen : ∀ vs, resultVs tt σ fn.results.toList = some vs → fn.results.toList.length ≠ 1 → (∀ u ∈ vs, u.isTup = false) → ∃ y, (results fn a).run P w = .ok y w ∧ V3 (cx C β σ w) (.tup vs) y := by
    intro vs h1 h2 h3
    obtain ⟨ys, hy, ha⟩ := resultVs_rel hT h h1
    have hl : ys.length ≠ 1 := by
      rw [← ha.length]
      have : ∀ (rs : List ResultVar) (vs : List V), resultVs tt σ rs = some vs → vs.length = rs.length := by
        intro rs
        induction rs with
        | nil => intro vs h; simp only [resultVs, Option.some.injEq] at h; subst h; rfl
        | cons x rs ih =>
          intro vs h
          cases x with
          | tmp t =>
            simp only [resultVs] at h
            cases h4 : resultVs tt σ rs with
            | none => rw [h4] at h; cases h
            | some us => rw [h4] at h; simp only [Option.some.injEq] at h; subst h; simp [ih us h4]
          | cell t ty =>
            simp only [resultVs] at h
            split at h
            · rename_i cs us h5 h4
              simp only [Option.some.injEq] at h
              subst h
              simp [ih us h4]
            · cases h
      rw [this _ _ h1]
      exact h2
    refine ⟨.tuple ys.toArray, ?_, ys.toArray, rfl, ?_⟩
    · rw [results_eq]
      simp only [Sem.run_bind, Array.mapM_eq_mapM_toList, Sem.run_map, hy]
      simp [hl]
    · rw [List.toList_toArray]
      refine All2.mono_mem (fun u x hu hx => ?_) ha
      rcases V3.cases hx with ⟨_, rfl, _⟩ | ⟨_, h5⟩
      · have := h3 _ hu; simp [V.isTup] at this
      · exact h5
  unfold resultV at he
  split at he
  · rename_i h1
    injection he with he
    subst he
    exact gen [] (by rw [h1]; rfl) (by rw [h1]; simp) (by simp)
  · rename_i t h1
    injection he with he
    subst he
    exact ⟨_, run_results_one h1 a w, h.get t⟩
  · rename_i t ty h1
    split at he
    · rename_i cs h2
      injection he with he
      subst he
      obtain ⟨y, hy, hv⟩ := run_cellVar hT h h2
      refine ⟨y, ?_, hv⟩
      have : fn.results = #[ResultVar.cell t ty] := by rw [← Array.toList_inj, h1]
      rw [results_eq, this]
      simp [hy]
    · cases he
  · rename_i h1 h2 h2c
    cases h3 : resultVs tt σ fn.results.toList with
    | none => rw [h3] at he; cases he
    | some vs =>
      rw [h3] at he
      obtain ⟨hu, he⟩ := cond_some he
      injection he with he
      subst he
      refine gen vs h3 ?_ fun u hu' => ?_
      rotate_left
      · have := List.all_eq_true.1 hu u hu'
        cases u <;> first | rfl | simp [untup] at this
      intro hl
      cases hr : fn.results.toList with
      | nil => rw [hr] at hl; cases hl
      | cons x rs =>
        rw [hr] at hl
        simp only [List.length_cons, Nat.add_eq_right, List.length_eq_zero_iff] at hl
        subst hl
        cases x with
        | tmp t => exact h2 t hr
        | cell t ty => exact h2c t ty hr

end
end Go.Proofs.Ytiboikgoaihccaa.R
