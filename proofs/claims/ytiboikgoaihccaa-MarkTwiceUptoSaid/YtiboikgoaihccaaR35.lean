/-
The walk of a law: from what is read of its arguments to what it hands back.
-/
import Derived.Test.YtiboikgoaihccaaR34
import Derived.WideShapes
import Derived.ChangeShapes
import Derived.SizedLaws
namespace Go.Proofs.Ytiboikgoaihccaa.R
open Go.RowKit Go.WideShapes Go.ChangeShapes
set_option linter.unusedVariables false

@[reducible] def WfL : (ts : List Ty) → Dens ts → Prop
  | [], _ => True
  | [t], x => WfD t x
  | t :: u :: ts, x => WfD t x.1 ∧ WfL (u :: ts) x.2

@[reducible] def SzL : (ts : List Ty) → Dens ts → Prop
  | [], _ => True
  | [t], x => SzD t x
  | t :: u :: ts, x => SzD t x.1 ∧ SzL (u :: ts) x.2

@[reducible] def LDL {H : Type} : (ts : List Ty) → Dens ts → List (DataW H) → Prop
  | [t], x, [d] => LD t x d
  | t :: u :: ts, x, d :: ds => LD t x.1 d ∧ LDL (u :: ts) x.2 ds
  | _, _, _ => True

section
variable {H : Type} {enc' : TypeId × Value → H} {P : Program} {W W' : World} {base : Nat} {spare : Nat → Bool} {held : Bool}

theorem shape_of {n : Nat} {t : TypeId} {τ : Ty} {v : Value} (h : tyOf P n t = some τ) (hok : Value.okWide P W .any base t v) :
    (τ.agg = true ∧ ∃ cs, v = .agg cs) ∨ (τ.agg = false ∧ v.cells.toList = [v]) := by
  cases n with
  | zero => simp [tyOf] at h
  | succ n =>
    simp only [tyOf] at h
    cases hu : P.underlying t with
    | none => rw [hu] at h; cases h
    | some d =>
      rw [hu] at h
      cases d <;> simp only [reduceCtorEq] at h
      case bool =>
        injection h with h; subst h
        obtain ⟨b, rfl⟩ := okWide_bool hu hok
        exact .inr ⟨rfl, by simp [Value.cells]⟩
      case int k =>
        injection h with h; subst h
        obtain ⟨b, rfl⟩ := okWide_int hu hok
        exact .inr ⟨rfl, by simp [Value.cells]⟩
      case string =>
        injection h with h; subst h
        obtain ⟨b, rfl⟩ := okWide_string hu hok
        exact .inr ⟨rfl, by simp [Value.cells]⟩
      case slice e =>
        rw [Option.map_eq_some_iff] at h
        obtain ⟨σ, hσ, rfl⟩ := h
        obtain ⟨a, l, c, rfl⟩ := okWide_slice hu hok
        exact .inr ⟨rfl, by simp [Value.cells]⟩
      case struct F =>
        obtain ⟨cs, rfl, _⟩ := okWide_struct hu hok
        refine .inl ⟨?_, cs, rfl⟩
        cases hms : F.toList.map (fun f => tyOf P n f.type) with
        | nil => rw [hms] at h; simp [tysTop, tysTail] at h
        | cons q qs =>
          rw [hms] at h
          cases qs with
          | nil =>
            cases q with
            | none => simp [tysTop] at h
            | some σ => simp only [tysTop, Option.map_some, Option.some.injEq] at h; subst h; rfl
          | cons q2 qs =>
            cases q with
            | none => simp [tysTop, tysTail] at h
            | some σ =>
              simp only [tysTop, tysTail, Option.map_eq_some_iff] at h
              obtain ⟨ρ, hρ, rfl⟩ := h
              rfl

theorem arg_rel {n : Nat} {t : TypeId} {τ : Ty} {v : Value} {d : DataW H} {p : List MemPlace} {base' : Nat} (ht : tyOf P n t = some τ) (hl : lay P n t = true) (hok : Value.okWide P W .any base' t v) (hd : DataW.Trod enc' P W base spare held t v d p) :
    ∃ x : τ.den, V3 (cxP (allB W) W) (encV τ x) v ∧ WfD τ x ∧ ((d.weights P t).all (· ≤ reachBytes) = true → SzD τ x) ∧ LD τ x d := by
  obtain ⟨fuel, hf⟩ := hd
  obtain ⟨x, hx, hw, hs, hld⟩ := trod_rel n t τ ht hl fuel _ _ hf
  refine ⟨x, ?_, hw, hs, hld⟩
  have he := (DRel.enc (S := cxP (allB W) W) hx).mono fun _ _ hh => hh.to
  unfold encV
  rcases shape_of ht hok with ⟨ha, cs, rfl⟩ | ⟨ha, hc⟩
  · rw [ha]
    exact ⟨cs, rfl, by simpa [Value.cells] using he⟩
  · rw [ha]
    rw [hc] at he
    cases hu : enc τ x with
    | nil => rw [hu] at he; exact he.elim
    | cons u us =>
      rw [hu] at he
      cases us with
      | nil => exact V3.of1 he.1
      | cons u2 us => exact he.2.elim

theorem args_rel {n base' : Nat} : ∀ (ts : List TypeId) (τs : List Ty) {vs : List Value} {ds : List (DataW H)} {ps : List MemPlace}, DataW.TrodAll enc' P W base spare held ts vs ds ps → ts.map (tyOf P n) = τs.map some → ts.all (lay P n) = true →
    (∀ (j : Nat) t v, ts[j]? = some t → vs[j]? = some v → Value.okWide P W .any base' t v) →
    ∃ d : Dens τs, All2 (V3 (cxP (allB W) W)) (encL τs d) vs ∧ WfL τs d ∧ ((DataW.weightsEach P ts ds).all (· ≤ reachBytes) = true → SzL τs d) ∧ LDL τs d ds
  | [], τs, vs, ds, ps, h, hτ, _, _ => by
    cases τs with
    | cons _ _ => simp at hτ
    | nil =>
      cases vs with
      | cons _ _ => cases ds <;> exact h.elim
      | nil => exact ⟨(), trivial, trivial, fun _ => trivial, trivial⟩
  | t :: ts, τs, vs, ds, ps, h, hτ, hl, hok => by
    cases τs with
    | nil => simp at hτ
    | cons τ τs =>
      cases vs with
      | nil => exact h.elim
      | cons v vs =>
        cases ds with
        | nil => exact h.elim
        | cons d ds =>
          obtain ⟨p, q, h1, h2, rfl⟩ := h
          simp only [List.map_cons, List.cons.injEq] at hτ
          simp only [List.all_cons, Bool.and_eq_true] at hl
          obtain ⟨x, hx, hw, hs, hld⟩ := arg_rel hτ.1 hl.1 (hok 0 t v rfl rfl) h1
          obtain ⟨y, hy, hwy, hsy, hldy⟩ := args_rel ts τs h2 hτ.2 hl.2 fun j t' v' hj hv => hok (j + 1) t' v' hj hv
          cases τs with
          | nil =>
            cases vs with
            | cons _ _ => exact hy.elim
            | nil =>
              refine ⟨x, ⟨hx, trivial⟩, hw, fun hz => hs ?_, by cases ds <;> first | exact hld | trivial⟩
              simp only [DataW.weightsEach, List.all_append, Bool.and_eq_true] at hz
              exact hz.1
          | cons τ2 τs =>
            refine ⟨(x, y), ⟨hx, hy⟩, ⟨hw, hwy⟩, fun hz => ?_, hld, hldy⟩
            simp only [DataW.weightsEach, List.all_append, Bool.and_eq_true] at hz
            exact ⟨hs hz.1, hsy hz.2⟩

/-- Arguments read behind the call as they did before. -/
theorem args_back (hlo : laidOutB P = true) (hb : Below W.heap.size W W') : ∀ (ts : List TypeId) {vs : List Value} {ds : List (DataW H)} {ps : List MemPlace}, DataW.TrodAll enc' P W 0 (fun _ => true) true ts vs ds ps →
    ts.all (fun t => P.readableRec t && decide (t < P.types.size)) = true → DataW.TrodAll enc' P W' 0 (fun b => decide (b < W.heap.size)) true ts vs ds ps
  | [], vs, ds, ps, h, _ => by cases vs <;> cases ds <;> exact h
  | t :: ts, vs, ds, ps, h, hr => by
    cases vs with
    | nil => exact h.elim
    | cons v vs =>
      cases ds with
      | nil => exact h.elim
      | cons d ds =>
        obtain ⟨p, q, h1, h2, rfl⟩ := h
        simp only [List.all_cons, Bool.and_eq_true, decide_eq_true_eq] at hr
        refine ⟨p, q, Below.trod hlo hr.1.1 hr.1.2 h1 hb ?_, args_back hlo hb ts h2 hr.2, rfl⟩
        obtain ⟨m, hm⟩ := h1
        exact DataW.trod_lt m _ _ _ hm

theorem law_calls (hm : P.follows .mixedOrders = true) {f : FuncId} {fn : Func} {code : Code} (hf : P.funcs[f]? = some fn) (hb : fn.body = some code) {n base' : Nat} {τs : List Ty} (hτ : fn.params.toList.map (tyOf P n) = τs.map some) (hl : fn.params.toList.all (lay P n) = true)
    {args : Array Value} {ds : List (DataW H)} {p : List MemPlace} (hev : ∀ d : Dens τs, WfL τs d → SzL τs d → LDL τs d ds → ∃ E c, TtOk P E.tt ∧ SumsOk P E ∧ InlOk P E ∧ evFn E c f fn (encL τs d) = some (.bool true))
    (hA : DataW.TrodAll enc' P W 0 (fun _ => true) true fn.params.toList args.toList ds p)
    (hval : ∀ (j : Nat) t v, fn.params[j]? = some t → args[j]? = some v → Value.okWide P W .any base' t v) (hsz : (DataW.weightsEach P fn.params.toList ds).all (· ≤ reachBytes) = true) :
    Calls P f args W fun e W' => e = .returned (.bool true) ∧ Below W.heap.size W W' := by
  obtain ⟨d, hd, hw, hs, hld⟩ := args_rel (base' := base') fn.params.toList τs hA hτ hl fun j t v hj hv => hval j t v (by simpa using hj) (by simpa using hv)
  obtain ⟨E, c, hT, hS, hI, he⟩ := hev d hw (hs hsz) hld
  refine (evFn_sound hT hS hI (fun C r H hH => drawOk hm hT hS H hH) hf hb he (fun b hb => hb) hd).mono fun e W' ⟨y, hy, hret⟩ => ?_
  obtain ⟨hg, Ls, hL⟩ := hret
  have hv := hL.val 0
  have : y = .bool true := hv
  subst this
  exact ⟨hy, hg.os, hg.tape, hg.output, hg.size, hg.block⟩

end
end Go.Proofs.Ytiboikgoaihccaa.R
