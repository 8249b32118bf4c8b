/-
Calls; a function as a whole.
-/
import Derived.Test.YtiboikgoaihccaaR23
namespace Go.Proofs.Ytiboikgoaihccaa.R
open Go.RowKit
set_option linter.unusedVariables false

def SumsOk (P : Program) (E : Env) : Prop := ∀ g s, lookS E.sums g = some s → SumOk P g s
def InlOk (P : Program) (E : Env) : Prop := ∀ g fn, lookF E.inl g = some fn → P.funcs[g]? = some fn ∧ (fn.name == "runtime.NumGoroutine") = false

section
variable {P : Program} {E : Env} {C : Frm} {β : Nat → Option Loc} {σ : St} {as : List (Array Value)} {w w' : World} {R : Type} {r : R}

theorem entry_rel {S : Cx} {fn : Func} {vs : List V} {xs : Array Value} (h : All2 (V3 S) vs xs.toList) : FrRel S (entry fn vs) (xs ++ Array.replicate (fn.ntmps - xs.size) undef) := by
  have hl := h.length
  simp only [Array.length_toList] at hl
  refine ⟨by simp [entry, hl], fun t => ?_⟩
  unfold entry
  rw [List.getD_eq_getElem?_getD, Array.getD_eq_getD_getElem?]
  by_cases ht : t < vs.length
  · rw [List.getElem?_append_left ht, Array.getElem?_append_left (by omega)]
    obtain ⟨y, hy, hv⟩ := h.get (List.getElem?_eq_getElem ht)
    rw [List.getElem?_eq_getElem ht]
    simp only [Array.getElem?_toList] at hy
    rw [hy]
    exact hv
  · rw [List.getElem?_append_right (by omega)]
    have : (List.replicate (fn.ntmps - vs.length) V.undef)[t - vs.length]?.getD .undef = .undef := by
      rw [List.getElem?_replicate]
      split <;> rfl
    rw [this]
    exact V3.undef

theorem retK_sound {tt : Nat → TI} (hT : TtOk P tt) {fn : Func} {K : V → St → Option R} {tmps : Array Value} {e : Exit} {a : Act} {w : World} (h : Good C (tmps :: as) (retK tt fn K) r e a w) :
    bodyPost P fn (fun e w' => ∃ x, e = .returned x ∧ ∃ β' σ' v, Sim C β' σ' (tmps :: as) w' ∧ V3 (cx C β' σ' w') v x ∧ K v σ' = some r) e a w := by
  obtain ⟨hd, β, σ, hs, he⟩ := h
  have key : (match resultV tt σ fn with
    | some v => match σ.outs with
      | fr :: outs => K v { fr := fr, outs := outs, mem := σ.mem }
      | [] => none
    | none => none) = some r → a.defers = [] ∧ ∃ v, (results fn a.tmps).run P w = .ok v w ∧ (∃ x, Ending.returned v = .returned x ∧ ∃ β' σ' u, Sim C β' σ' (tmps :: as) w ∧ V3 (cx C β' σ' w) u x ∧ K u σ' = some r) := by
    intro he
    refine ⟨hd, ?_⟩
    cases hv : resultV tt σ fn with
    | none => rw [hv] at he; cases he
    | some v =>
      rw [hv] at he
      obtain ⟨y, hy, hvy⟩ := run_results hT hs hv
      cases ho : σ.outs with
      | nil => rw [ho] at he; cases he
      | cons fr outs =>
        rw [ho] at he
        refine ⟨y, hy, y, rfl, β, { fr := fr, outs := outs, mem := σ.mem }, v, ?_, hvy, he⟩
        have h2 := hs.fr.2
        rw [ho] at h2
        exact ⟨hs.frm, h2, hs.ent, hs.inj, hs.own⟩
  cases e with
  | normal => exact key he
  | ret => exact key he
  | _ => simp [retK] at he

theorem callD_sound (hT : TtOk P E.tt) (hS : SumsOk P E) (hI : InlOk P E) (hD : ∀ H : Handler R, HOk P C H r → DrawOk P E C H r) : ∀ (c d : Nat), HOk P C (callD (R := R) E c d) r
  | 0, d => by
    intro as β σ tmps w g nm vs xs K h hv he
    unfold callD at he
    split at he
    · rename_i s hs
      exact callS_sound (hS g s hs) h hv he
    · cases he
  | c + 1, d => by
    intro as β σ tmps w g nm vs xs K h hv he
    unfold callD at he
    split at he
    · rename_i s hs
      exact callS_sound (hS g s hs) h hv he
    · split at he
      · rename_i fn hf
        split at he
        · rename_i code hb
          obtain ⟨hP, hn⟩ := hI g fn hf
          refine ⟨run_enter ⟨fn, code, hP, hn, hb⟩ xs w, calls_of_wp hP hb ?_⟩
          have ih := callD_sound hT hS hI hD c (d + 1)
          have hk : Sim C β { fr := (doGhost σ (.kill (E.dead g nm))).fr, outs := σ.outs, mem := σ.mem } (tmps :: as) w := by
            have : ∀ (ts : List Nat) (σ1 : St), σ1.outs = σ.outs → σ1.mem = σ.mem → Sim C β σ1 (tmps :: as) w → Sim C β { fr := (ts.foldl (fun σ t => σ.set t .undef) σ1).fr, outs := σ.outs, mem := σ.mem } (tmps :: as) w := by
              intro ts
              induction ts with
              | nil =>
                intro σ1 h1 h2 h3
                cases σ1
                simp only [] at h1 h2
                subst h1; subst h2
                exact h3
              | cons t ts ih => intro σ1 h1 h2 h3; exact ih (σ1.set t .undef) h1 h2 (h3.setUndef t)
            exact this _ σ rfl rfl h
          have hsim : Sim C β { fr := entry fn vs, outs := (doGhost σ (.kill (E.dead g nm))).fr :: σ.outs, mem := σ.mem } ((xs ++ Array.replicate (fn.ntmps - xs.size) undef) :: tmps :: as) w :=
            ⟨h.frm, ⟨entry_rel hv, hk.fr⟩, h.ent, h.inj, h.own⟩
          exact wp_mono (evCode_sound hT ih (hD _ ih) code (retK E.tt fn K) β _ { tmps := xs ++ Array.replicate (fn.ntmps - xs.size) undef, defers := [] } w hsim rfl he) fun e a' w' hg => retK_sound hT hg
        · cases he
      · cases he

theorem finK_sound {tt : Nat → TI} (hT : TtOk P tt) {B : Nat → Prop} {w0 : World} {fn : Func} {v : V} {e : Exit} {a : Act} (h : Good (frmOf B w0) [] (finK tt fn) v e a w) : bodyPost P fn (fun e w' => ∃ y, e = .returned y ∧ Ret B w0 w' v y) e a w := by
  obtain ⟨hd, β, σ, hs, he⟩ := h
  have key : (match resultV tt σ fn with
    | some v => give σ.mem v
    | none => none) = some v → a.defers = [] ∧ ∃ x, (results fn a.tmps).run P w = .ok x w ∧ (∃ y, Ending.returned x = .returned y ∧ Ret B w0 w v y) := by
    intro he
    refine ⟨hd, ?_⟩
    cases hv : resultV tt σ fn with
    | none => rw [hv] at he; cases he
    | some u =>
      rw [hv] at he
      obtain ⟨y, hy, hvy⟩ := run_results hT hs hv
      exact ⟨y, hy, y, rfl, give_sound hs hvy he⟩
  cases e with
  | normal => exact key he
  | ret => exact key he
  | _ => simp [finK] at he

theorem evFn_sound (hT : TtOk P E.tt) (hS : SumsOk P E) (hI : InlOk P E) (hD : ∀ (C : Frm) (r : V) (H : Handler V), HOk P C H r → DrawOk P E C H r) {f : FuncId} {fn : Func} {code : Code} (hf : P.funcs[f]? = some fn) (hb : fn.body = some code) {c : Nat} {vs : List V} {v : V}
    (he : evFn E c f fn vs = some v) {B : Nat → Prop} {w : World} {xs : Array Value} (hB : ∀ b, B b → b < w.heap.size) (hv : All2 (V3 (cxP B w)) vs xs.toList) :
    Calls P f xs w fun e w' => ∃ y, e = .returned y ∧ Ret B w w' v y := by
  refine calls_of_wp hf hb ?_
  unfold evFn at he
  rw [hb] at he
  have hfree : ∀ g, B g → Free (frmOf B w) [] (fun _ => none) w g := by
    intro g hg
    refine ⟨hB g hg, ?_⟩
    rintro (⟨e, L, h1, _⟩ | hh)
    · cases h1
    · exact hh.2 hg
  have hsim : Sim (frmOf B w) (fun _ => none) { fr := entry fn vs, outs := [], mem := [] } [(xs ++ Array.replicate (fn.ntmps - xs.size) undef)] w := by
    refine ⟨⟨rfl, rfl, rfl, Nat.le_refl _, fun _ _ _ => rfl⟩, ⟨entry_rel (hv.mono fun a b hab => ?_), trivial⟩, (fun e E hE => by cases hE), (fun e e' L L' h1 => by cases h1), (fun e L h1 => by cases h1)⟩
    exact V3.keeps (S := cxP B w) (S' := ⟨[], fun _ => none, Free (frmOf B w) [] (fun _ => none) w, w⟩) ⟨(fun e E hE => by cases hE), (fun _ _ => rfl), hfree, (fun _ _ => rfl)⟩ hab
  have hH := callD_sound (C := frmOf B w) (R := V) (r := v) hT hS hI (hD _ _) c 0
  exact wp_mono (evCode_sound hT hH (hD _ _ _ hH) code (finK E.tt fn) _ _ { tmps := xs ++ Array.replicate (fn.ntmps - xs.size) undef, defers := [] } w hsim rfl he) fun e a' w' hg => finK_sound hT hg

/-- What is known of a function, by its evaluation. -/
theorem sum_of_ev {f : FuncId} {fn : Func} {code : Code} {s : Summ} (hf : P.funcs[f]? = some fn) (hn : (fn.name == "runtime.NumGoroutine") = false) (hb : fn.body = some code)
    (h : ∀ vs x, s.call vs = some x → ∃ E c, TtOk P E.tt ∧ SumsOk P E ∧ InlOk P E ∧ (∀ (C : Frm) (r : V) (H : Handler V), HOk P C H r → DrawOk P E C H r) ∧ evFn E c f fn vs = some (s.res x)) : SumOk P f s := by
  refine ⟨⟨fn, code, hf, hn, hb⟩, fun B w vs xs x hB hv hx => ?_⟩
  obtain ⟨E, c, hT, hS, hI, hD, he⟩ := h vs x hx
  exact evFn_sound hT hS hI hD hf hb he hB hv

end
end Go.Proofs.Ytiboikgoaihccaa.R
