/-
Operations of regions whose order is drawn, one by one.
-/
import Derived.Test.YtiboikgoaihccaaR25
namespace Go.Proofs.Ytiboikgoaihccaa.R
open Go.RowKit
set_option linter.unusedVariables false
set_option linter.unusedSimpArgs false

/-- What comes of an operation that makes nothing but a value and fresh entries. -/
inductive OpDR (E : Env) (nm : Nat) (o : Oper) (σ : St) (v : V) (es : List Entry) : Prop where
  | pure (bs : List Bool) (hp : pureOp o.op = true) (h : op1 E nm o.type o.op σ = some (bs, v, σ)) (hb : ∀ b ∈ bs, b = true) (he : es = [])
  | assign (x : Operand) (ho : o.op = .assign x) (hv : σ.eval x = v) (he : es = [])
  | row (t e : TypeId) (len : Nat) (ps : Array (Nat × Operand)) (te : Ty) (cs : List V) (l : List te.den) (ho : o.op = .buildSlice t len ps) (hk : (E.tt t).kind = .slice e) (hty : (E.tt e).ty = some te)
      (hc : fillC (fun i => some (i * (E.tt e).size, (E.tt e).size)) (ps.toList.map fun p => (p.1, σ.eval p.2)) (zerosL (E.tt e).zero (len * (E.tt e).size)) = some cs) (hd : decN te len (cs.map (pure1 σ)) = some l)
      (hn : len * (E.tt e).size ≤ 16777216) (hr : cs.all noRef = true) (hv : v = .slw nm) (he : es = [.row te l])
  | call (c : Call) (f : Operand) (g : FuncId) (caps : List V) (s : Summ) (x : s.rt) (ho : o.op = .call c) (hc : c.callee = .value f) (hf : σ.eval f = .fn g caps) (hs : lookS E.sums g = some s) (hp : caps.all plain = true)
      (hx : s.call ((c.args.toList.map σ.eval ++ caps).map (pureV σ)) = some x) (hr : (flatV (s.res x) || (argCells (c.args.toList.map σ.eval ++ caps)).all noRef) = true) (hv : v = relab nm (s.res x)) (he : es = owns (s.res x).flat)

section
variable {P : Program} {E : Env} {C : Frm} {β : Nat → Option Loc} {σ τ σ' : St} {a : Act} {as : List (Array Value)} {w : World} {o : Oper} {R : Type} {r : R} {nm : Nat} {v : V} {es : List Entry}

theorem opD_some {K : V → List Entry → Option R} (he : opD E nm o σ K = some r) : ∃ v es, OpDR E nm o σ v es ∧ K v es = some r := by
  have pur : (bif pureOp o.op then (match op1 E nm o.type o.op σ with
      | some (bs, v, _) => chks bs (K v [])
      | none => none) else none) = some r → (∀ x, o.op = .assign x → False) → ∃ v es, OpDR E nm o σ v es ∧ K v es = some r := by
    intro h hn
    obtain ⟨h1, h2⟩ := cond_some h
    split at h2
    · rename_i bs v σ1 h3
      obtain ⟨hbs, hK⟩ := chks_some h2
      have := op1_congr (τ := σ) h1 (fun x _ => ⟨rfl, fun _ _ => rfl⟩) h3 hn
      exact ⟨v, [], .pure bs h1 this.2 hbs rfl, hK⟩
    · cases h2
  unfold opD at he
  split at he
  · rename_i t len ps ho
    split at he
    rotate_left
    · cases he
    rename_i e hk
    split at he
    rotate_left
    · cases he
    rename_i te hty
    split at he
    rotate_left
    · cases he
    rename_i cs hc
    split at he
    rotate_left
    · cases he
    rename_i l hd
    obtain ⟨h1, h2⟩ := cond_some he
    simp only [Bool.and_eq_true, Nat.ble_eq] at h1
    exact ⟨_, _, .row t e len ps te cs l ho hk hty hc hd h1.1 h1.2 rfl rfl, h2⟩
  · rename_i x ho
    split at he
    · cases he
    · exact ⟨_, _, .assign x ho rfl rfl, he⟩
  · rename_i c ho
    split at he
    · rename_i f hc
      split at he
      rotate_left
      · cases he
      rename_i g caps hf
      split at he
      rotate_left
      · cases he
      rename_i s hs
      cases hx : s.call ((c.args.toList.map σ.eval ++ caps).map (pureV σ)) with
      | none => rw [hx] at he; cases he
      | some x =>
        rw [hx] at he
        simp only [Option.bind_some] at he
        obtain ⟨h1, h2⟩ := cond_some he
        simp only [Bool.and_eq_true] at h1
        exact ⟨_, _, .call c f g caps s x ho hc hf hs h1.1 hx h1.2 rfl rfl, h2⟩
    · exact pur he (fun x hx => by rw [ho] at hx; cases hx)
  · rename_i h1 h2 h3
    exact pur he (fun x hx => h2 x hx)

theorem argCells_refs {vs : List V} {u : V} {e : Nat} (hu : u ∈ argCells vs) (he : e ∈ refs1 u) : ∃ v ∈ vs, e ∈ refs3 v := by
  induction vs with
  | nil => simp [argCells] at hu
  | cons v vs ih =>
    simp only [argCells, List.mem_append] at hu
    rcases hu with hu | hu
    · refine ⟨v, by simp, ?_⟩
      by_cases hv : v.isAgg = true
      · cases v <;> simp only [V.isAgg, Bool.false_eq_true] at hv
        simp only [refs3, refs2, List.mem_flatMap]
        exact ⟨u, hu, he⟩
      · have : v.cells = [v] := by cases v <;> first | rfl | simp [V.isAgg] at hv
        rw [this] at hu
        simp only [List.mem_singleton] at hu
        subst hu
        exact refs2_refs3 (refs1_refs2 he)
    · obtain ⟨x, hx, h⟩ := ih hu
      exact ⟨x, by simp [hx], h⟩

theorem fillC_mem {place : Nat → Option (Nat × Nat)} : ∀ {ps : List (Nat × V)} {cs cs' : List V}, fillC place ps cs = some cs' → ∀ c ∈ cs', c ∈ cs ∨ ∃ p ∈ ps, c ∈ p.2.cells
  | [], cs, cs', h, c, hc => by simp only [fillC, Option.some.injEq] at h; subst h; exact .inl hc
  | (i, v) :: ps, cs, cs', h, c, hc => by
    simp only [fillC] at h
    split at h
    · obtain ⟨_, h2⟩ := cond_some h
      rcases fillC_mem h2 c hc with h3 | ⟨p, hp, h3⟩
      · unfold fillAt at h3
        simp only [List.mem_append] at h3
        rcases h3 with (h3 | h3) | h3
        · exact .inl (List.mem_of_mem_take h3)
        · exact .inr ⟨(i, v), by simp, h3⟩
        · exact .inl (List.mem_of_mem_drop h3)
      · exact .inr ⟨p, by simp [hp], h3⟩
    · cases h

theorem OpDR.congr (h : Agr σ τ o.op) (hd : OpDR E nm o σ v es) : OpDR E nm o τ v es := by
  cases hd with
  | pure bs hp h1 hb he =>
    refine .pure bs hp (op1_congr hp h h1 (fun x hx => by rw [hx] at hp; cases hp)).2 hb he
  | assign x ho hv he =>
    refine .assign x ho ?_ he
    rw [← hv, (h x (by rw [ho]; simp [Op.operands])).1]
  | row t e len ps te cs l ho hk hty hc hd hn hr hv he =>
    have hp : ∀ x ∈ ps.toList.map (·.2), σ.eval x = τ.eval x := fun x hx => (h x (by rw [ho]; simpa [Op.operands] using hx)).1
    refine .row t e len ps te cs l ho hk hty (by rw [← parts_congr hp]; exact hc) ?_ hn hr hv he
    rw [← hd]
    congr 1
    refine List.map_congr_left fun c hc' => (pure1_congr fun e' he' => ?_).symm
    have := List.all_eq_true.1 hr c hc'
    cases c <;> simp [noRef, ref0] at this he'
  | call c f g caps s x ho hc hf hs hp hx hr hv he =>
    have hff := h f (by rw [ho]; simp [Op.operands, Call.operands, hc])
    have hargs : ∀ x ∈ c.args.toList, σ.eval x = τ.eval x ∧ AgrV σ τ (σ.eval x) := fun x hx => h x (by
      rw [ho]; simp only [Op.operands, Call.operands, Array.toList_append, List.mem_append]; exact .inr hx)
    have e1 : c.args.toList.map σ.eval = c.args.toList.map τ.eval := List.map_congr_left fun x hx => (hargs x hx).1
    have e2 : (c.args.toList.map σ.eval ++ caps).map (pureV σ) = (c.args.toList.map τ.eval ++ caps).map (pureV τ) := by
      rw [← e1]
      refine List.map_congr_left fun u hu => pureV_congr ?_
      rcases List.mem_append.1 hu with hu | hu
      · obtain ⟨x, hx, rfl⟩ := List.mem_map.1 hu
        exact (hargs x hx).2
      · intro e he'
        refine hff.2 e ?_
        rw [hf]
        have hpu := List.all_eq_true.1 hp u hu
        have h0 : e ∈ ref0 u := by cases u <;> first | exact he' | simp [plain] at hpu
        simp only [refs3, refs2, refs1, List.mem_flatMap]
        exact ⟨u, hu, h0⟩
    exact .call c f g caps s x ho hc (by rw [← hff.1]; exact hf) hs hp (by rw [← e2]; exact hx) (by rw [← e1]; exact hr) hv he

theorem frzAll_id : ∀ {cs : List V} {σ : St}, cs.all noRef = true → σ.frzAll cs = σ
  | [], _, _ => rfl
  | c :: cs, σ, h => by
    simp only [List.all_cons, Bool.and_eq_true] at h
    have : frz1 σ c = σ := by cases c <;> first | rfl | simp [noRef] at h
    simp only [St.frzAll, this]
    exact frzAll_id h.2

theorem clear_dead {e : Nat} (h : look σ.mem e = none) : σ.clear e = σ := by unfold St.clear; rw [h]; rfl

theorem clearN_dead : ∀ (n k : Nat), deadN σ.mem k n = true → St.clearN k n σ = σ
  | 0, _, _ => rfl
  | n + 1, k, h => by
    simp only [deadN, Bool.and_eq_true, Option.isNone_iff_eq_none] at h
    simp only [St.clearN, clear_dead h.1]
    exact clearN_dead n (k + 1) h.2

/-- The state behind it. -/
def St.apD (σ : St) (nm : Nat) (dst : Option Nat) (v : V) (es : List Entry) : St := St.put { σ with mem := addE nm es σ.mem } dst v

theorem opDR_sound (hT : TtOk P E.tt) (hS : SumsOk P E) {next : Act → World → Prop} {Q : Exit → Act → World → Prop} (h : Sim C β σ (a.tmps :: as) w) (hd : a.defers = []) (hdead : deadN σ.mem nm es.length = true) (ho : OpDR E nm o σ v es)
    (hn : ∀ (a' : Act) w' β', a'.defers = [] → Sim C β' (σ.apD nm o.dst v es) (a'.tmps :: as) w' → next a' w') : o.wp P a w next Q := by
  have fin : Done P C o a as w v { σ with mem := addE nm es σ.mem } → o.wp P a w next Q := by
    rintro ⟨x, w', β', hr, hs, hv⟩
    unfold Oper.wp
    rcases hr with hr | ⟨hr, rfl⟩ <;> rw [hr]
    · exact hn _ _ _ (by rw [put_defers]; exact hd) (hs.put o.dst hv)
    · exact hn _ _ _ (by rw [put_defers]; exact hd) (hs.put o.dst hv)
  cases ho with
  | pure bs hp h1 hb he =>
    subst he
    exact fin (op1_sound hT h h1 hb)
  | assign x ho hv he =>
    subst he
    refine fin ?_
    rw [← hv]
    exact done_move h (.inr ho)
  | row t e len ps te cs l ho hk hty hc hdd hn' hr hv he =>
    subst he
    subst hv
    refine fin ?_
    have := done_buildSlice (nm := nm) hT h ho hk hty hc hdd hn'
    rw [frzAll_id hr] at this
    have e1 : σ.new nm (.row te l) = { σ with mem := addE nm [.row te l] σ.mem } := by
      simp only [List.length_cons, List.length_nil, deadN, Bool.and_true, Option.isNone_iff_eq_none] at hdead
      unfold St.new
      rw [clear_dead hdead]
      rfl
    rw [← e1]
    exact this
  | call c f g caps s x ho hc hf hs hp hx hr hv he =>
    subst he
    subst hv
    have hf1 := h.eval f
    rw [hf] at hf1
    obtain ⟨ys, hfx, hcaps⟩ := hf1
    have hargs : All2 (V3 (cx C β σ w)) (c.args.toList.map σ.eval ++ caps) (c.args.map a.eval ++ ys).toList := by
      rw [Array.toList_append, Array.toList_map]
      refine All2.append ?_ (hcaps.mono fun _ _ => V3.of0)
      generalize c.args.toList = l
      induction l with
      | nil => exact trivial
      | cons y l ih => exact ⟨h.eval y, ih⟩
    have hcs : callS (R := V × St) s nm (c.args.toList.map σ.eval ++ caps) σ (fun v σ' => some (v, σ')) = some (relab nm (s.res x), { σ with mem := addE nm (owns (s.res x).flat) σ.mem }) := by
      unfold callS
      rw [hx]
      simp only [Option.bind_some]
      have e1 : (bif flatV (s.res x) then σ else σ.frzAll (argCells (c.args.toList.map σ.eval ++ caps))) = σ := by
        cases hfl : flatV (s.res x) with
        | true => rfl
        | false =>
          rw [hfl, Bool.false_or] at hr
          simp only [cond_false]
          exact frzAll_id hr
      rw [e1]
      unfold adopt
      simp only []
      rw [clearN_dead _ _ hdead]
    obtain ⟨h1, h2⟩ := callS_sound (hS g s hs) h hargs hcs
    unfold Oper.wp
    have hex : (execOp a.eval o).run P w = .ok (.enter g (c.args.map a.eval ++ ys)) w := by
      simp only [execOp, ho, resolve, hc, hfx, Deferred.ofValue, Sem.run_bind, Sem.run_pure, Result.andThen_ok, invoke, Array.empty_append]
      exact h1
    rw [hex]
    refine h2.mono fun e w' ⟨x', hx', β', σ', v', hs', hv', hK⟩ => ?_
    subst hx'
    injection hK with hK
    injection hK with hK1 hK2
    subst hK1
    subst hK2
    exact hn _ _ _ (by rw [put_defers]; exact hd) (hs'.put (a := a) o.dst hv')

end
end Go.Proofs.Ytiboikgoaihccaa.R
