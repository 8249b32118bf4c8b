/-
Operations that call nothing: what the evaluator tells of them is so.
-/
import Derived.Test.YtiboikgoaihccaaR7
namespace Go.Proofs.Ytiboikgoaihccaa.R
open Go.RowKit

/-- An operation was carried out: a value, a state. -/
def Done (P : Program) (C : Frm) (o : Oper) (a : Act) (as : List (Array Value)) (w : World) (v : V) (σ' : St) : Prop :=
  ∃ x w' β', ((execOp a.eval o).run P w = .ok (.value x) w' ∨ ((execOp a.eval o).run P w = .ok .skip w' ∧ x = undef)) ∧ Sim C β' σ' (a.tmps :: as) w' ∧ V3 (cx C β' σ' w') v x

section
variable {P : Program} {E : Env} {C : Frm} {β : Nat → Option Loc} {σ σ' : St} {a : Act} {as : List (Array Value)} {w : World} {o : Oper} {nm : Nat} {ty : TypeId} {bs : List Bool} {v : V}

/-- Nothing turns but the value. -/
theorem Done.same {x : Value} (h : Sim C β σ (a.tmps :: as) w) (hr : (execOp a.eval o).run P w = .ok (.value x) w) (hv : V3 (cx C β σ w) v x) : Done P C o a as w v σ := ⟨x, w, β, .inl hr, h, hv⟩

theorem done_move (h : Sim C β σ (a.tmps :: as) w) {x : Operand} (hop : o.op = .move x ∨ o.op = .assign x) : Done P C o a as w (σ.eval x) σ :=
  .same h (by rcases hop with hop | hop <;> simp only [execOp, hop, Sem.run_pure]) (h.eval x)

theorem done_nil (h : Sim C β σ (a.tmps :: as) w) {x : Operand} (hop : o.op = .assign x) (hx : σ.eval x = .nil) (t : Ty) : Done P C o a as w (.slw nm) (σ.new nm (.row t [])) := by
  have h1 := h.eval x
  rw [hx] at h1
  have h1 : a.eval x = .slice none 0 0 := h1
  obtain ⟨h2, _⟩ := h.newNil nm t
  refine ⟨a.eval x, w, _, .inl (by simp only [execOp, hop, Sem.run_pure]), h2, ?_⟩
  rw [h1]
  refine V3.of0 ⟨t, [], by simp [St.new, look_cons], none, 0, rfl, Nat.le_refl _, .inl rfl⟩

theorem run_asBool (b : Bool) (w : World) : (asBool (.bool b)).run P w = .ok b w := rfl

theorem done_pick (h : Sim C β σ (a.tmps :: as) w) {c x y : Operand} {b : Bool} (hop : o.op = .pick c x y) (hc : σ.eval c = .bool b) : Done P C o a as w (bif b then σ.eval x else σ.eval y) σ := by
  have h1 := h.eval c
  rw [hc] at h1
  have h1 : a.eval c = .bool b := h1
  refine .same (x := if b then a.eval x else a.eval y) h ?_ ?_
  · simp only [execOp, hop, h1, Sem.run_bind, run_asBool, Result.andThen_ok, Sem.run_pure]
  · cases b
    · exact h.eval y
    · exact h.eval x

/-- A fresh block of cells behind a pointer. -/
theorem done_box (h : Sim C β σ (a.tmps :: as) w) {cs : List V} {ys : Array Value} {el : TypeId} (hr : (execOp a.eval o).run P w = .ok (.value (.pointer (some ⟨w.heap.size, 0, none⟩))) (w.alloc (.cells ys el)))
    (hc : All2 (fun v y => V1 (cx C β (σ.clear nm) w) v y ∧ One y) cs ys.toList) : Done P C o a as w (.ptr nm 0 0) (σ.new nm (.box cs)) := by
  obtain ⟨h1, hk⟩ := h.new nm (.box cs) ys el (fun S' hS hw hβ => by
    refine ⟨_, ys, el, hβ, by rw [hw]; exact heap_alloc_new w _, rfl, fun j v hj => ?_⟩
    obtain ⟨y, hy, hv, ho⟩ := hc.get hj
    exact ⟨y, by simpa using hy, hv.keeps hS, ho⟩)
  refine ⟨_, _, _, .inl hr, h1, V3.of0 ⟨.box cs, ⟨w.heap.size, 0, ys.size⟩, by simp [St.new, look_cons], by simp [setβ], rfl, rfl⟩⟩

theorem All2.and {α β : Type} {R R' : α → β → Prop} {as : List α} {bs : List β} (h : All2 R as bs) (h' : ∀ b ∈ bs, ∀ a, R' a b) : All2 (fun a b => R a b ∧ R' a b) as bs := by
  induction as generalizing bs with
  | nil => cases bs <;> simp_all [All2]
  | cons a as ih => cases bs with
    | nil => exact h.elim
    | cons b bs => exact ⟨⟨h.1, h' b (by simp) a⟩, ih h.2 fun c hc => h' c (by simp [hc])⟩

theorem V1.clear {v : V} {x : Value} (e : Nat) (hv : V1 (cx C β σ w) v x) : V1 (cx C β (σ.clear e) w) (v.mapC (killV e)) x := by
  refine hv.map (S := cx C β σ w) fun v x hv => ?_
  by_cases hr : refOf v = some e
  · cases v <;> simp only [refOf, Option.some.injEq, reduceCtorEq] at hr <;> subst hr <;> simp [killV, V0]
  · rw [killV_other hr]
    cases hl : look σ.mem e with
    | none =>
      have : σ.clear e = σ := by unfold St.clear; rw [hl]; rfl
      rw [this]; exact hv
    | some E =>
      have hc : σ.clear e = σ.kill e := by unfold St.clear; rw [hl]; rfl
      rw [hc]
      refine V0.other (S := cx C β σ w) (S' := cx C β (σ.kill e) w) (g := killV e) (fun g hg => by rw [← hc]; exact clear_free hg) (fun _ _ => rfl) hv fun e' he' => ⟨?_, rfl⟩
      show look (σ.kill e).mem e' = _
      rw [look_kill, if_neg fun he2 => hr (by rw [he', he2])]

theorem done_opBox (h : Sim C β σ (a.tmps :: as) w) {t : TypeId} {x : Operand} (hop : o.op = .box t x) (hk : known (σ.eval x).cells = true) : Done P C o a as w (.ptr nm 0 0) (σ.new nm (.box ((σ.eval x).cells.map (V.mapC (killV nm))))) := by
  obtain ⟨h1, h2⟩ := (h.eval x).cells hk
  refine done_box (ys := (a.eval x).cells) (el := t) h ?_ ?_
  · simp only [execOp, hop, Instr.box, newVar, newRow, Sem.run_bind, run_newObj, Result.andThen_ok, Sem.run_pure, World.alloc_eq]
  · exact (h1.map (Q := V1 (cx C β (σ.clear nm) w)) (V.mapC (killV nm)) fun v y hv => V1.clear nm hv).and fun y hy _ => h2 y hy

theorem run_zeroValue {t : TypeId} {i : TypeInfo} {z : Value} (hi : P.info? t = some i) (hz : i.zero = some z) (w : World) : (zeroValue t).run P w = .ok z w := by
  simp [zeroValue, typeInfo, hi, hz]

theorem run_sizeOf' {t : TypeId} {i : TypeInfo} (hi : P.info? t = some i) (w : World) : (sizeOf t).run P w = .ok i.size w := by
  simp [sizeOf, typeInfo, hi]

theorem done_alloc (hT : TtOk P E.tt) (h : Sim C β σ (a.tmps :: as) w) {t : TypeId} (hop : o.op = .alloc t) (hs : (E.tt t).size ≠ 0) : Done P C o a as w (.ptr nm 0 0) (σ.new nm (.box (E.tt t).zero)) := by
  obtain ⟨i, z, hi, _, _, hz, hzz⟩ := hT.info t hs
  refine done_box (ys := z.cells) (el := t) h ?_ (hzz.mono fun v y hh => ⟨hh.1 _, hh.2⟩)
  simp only [execOp, hop, Instr.alloc, Sem.run_bind, run_zeroValue hi hz, Result.andThen_ok, newVar, newRow, run_newObj, Sem.run_pure, World.alloc_eq]

/-! ### Cells laid into cells -/
theorem zipIdx_fold (off : Nat) : ∀ (vs : List Value) (k : Nat) (cs : Array Value), off + k + vs.length ≤ cs.size →
    ((vs.zipIdx k).foldl (fun cs (p : Value × Nat) => cs.setIfInBounds (off + p.2) p.1) cs).toList = cs.toList.take (off + k) ++ vs ++ cs.toList.drop (off + k + vs.length)
  | [], k, cs, _ => by simp
  | v :: vs, k, cs, h => by
    simp only [List.zipIdx_cons, List.foldl_cons]
    simp only [List.length_cons] at h
    rw [zipIdx_fold off vs (k + 1) _ (by simp; omega)]
    have hlt : off + k < cs.toList.length := by simp; omega
    simp only [Array.toList_setIfInBounds]
    have e1 : List.take (off + (k + 1)) (cs.toList.set (off + k) v) = List.take (off + k) cs.toList ++ [v] := by
      rw [show off + (k + 1) = off + k + 1 from by omega, List.take_succ_eq_append_getElem (by simpa using hlt)]
      rw [List.take_set_of_le (Nat.le_refl _)]
      simp
    have e2 : List.drop (off + (k + 1) + vs.length) (cs.toList.set (off + k) v) = List.drop (off + k + (vs.length + 1)) cs.toList := by
      rw [List.drop_set_of_lt (by omega)]
      congr 1; omega
    rw [e1, e2]
    simp

theorem fill_rel {S : Cx} (place : Nat → Option (Nat × Nat)) : ∀ (ps : List (Nat × V)) (qs : List (Nat × Value)) (cs : List V) (ys : Array Value) {cs' : List V}, All2 (fun p q => p.1 = q.1 ∧ V3 S p.2 q.2) ps qs → All2 (fun v y => V1 S v y ∧ One y) cs ys.toList →
    fillC place ps cs = some cs' → ∃ ys', Instr.fill place ys qs = some ys' ∧ All2 (fun v y => V1 S v y ∧ One y) cs' ys'.toList
  | [], qs, cs, ys, cs', hp, hc, h => by
    cases qs with
    | nil => simp only [fillC, Option.some.injEq] at h; subst h; exact ⟨ys, rfl, hc⟩
    | cons q qs => exact hp.elim
  | (i, v) :: ps, qs, cs, ys, cs', hp, hc, h => by
    cases qs with
    | nil => exact hp.elim
    | cons q qs =>
      obtain ⟨i', x⟩ := q
      obtain ⟨⟨rfl, hv⟩, hp⟩ := hp
      simp only [fillC] at h
      cases hpl : place i with
      | none => simp [hpl] at h
      | some on =>
        obtain ⟨off, n⟩ := on
        simp only [hpl] at h
        cases hb : n == v.cells.length && known v.cells && (off + v.cells.length).ble cs.length with
        | false => simp [hb] at h
        | true =>
          simp only [hb, cond_true] at h
          simp only [Bool.and_eq_true, beq_iff_eq, Nat.ble_eq] at hb
          obtain ⟨⟨h1, h2⟩, h3⟩ := hb
          obtain ⟨hcs, hone⟩ := hv.cells h2
          have hl := hcs.length
          have hl2 := hc.length
          simp only [Array.length_toList] at hl hl2
          have hfold := zipIdx_fold off x.cells.toList 0 ys (by simp only [Array.length_toList]; omega)
          have hfold' : (x.cells.zipIdx.foldl (fun cs (p : Value × Nat) => cs.setIfInBounds (off + p.2) p.1) ys).toList = ys.toList.take off ++ x.cells.toList ++ ys.toList.drop (off + v.cells.length) := by
            rw [← Array.foldl_toList, Array.toList_zipIdx, hfold, Nat.add_zero, Array.length_toList, hl]
          obtain ⟨ys', h4, h5⟩ := fill_rel place ps qs (fillAt cs off v.cells) (x.cells.zipIdx.foldl (fun cs (p : Value × Nat) => cs.setIfInBounds (off + p.2) p.1) ys) hp (by
            rw [hfold', fillAt]
            exact ((hc.take off).append (hcs.and fun y hy _ => hone y hy)).append (hc.drop _)) h
          refine ⟨ys', ?_, h5⟩
          have hc1 : ¬ (x.cells.size ≠ n ∨ off + x.cells.size > ys.size) := by omega
          simp only [Instr.fill, hpl]
          rw [if_neg (by simpa using hc1)]
          exact h4

end
end Go.Proofs.Ytiboikgoaihccaa.R
