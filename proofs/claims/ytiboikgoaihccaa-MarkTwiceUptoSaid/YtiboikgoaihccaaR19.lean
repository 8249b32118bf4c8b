/-
Regions in the order of the text, code, loops: what the evaluator tells is so.
-/
import Derived.Test.YtiboikgoaihccaaR18
namespace Go.Proofs.Ytiboikgoaihccaa.R
open Go.RowKit
set_option linter.unusedVariables false

/-- What is asked behind a piece of code. -/
def Good (C : Frm) (as : List (Array Value)) {R : Type} (K : Kl R) (r : R) : Exit → Act → World → Prop := fun e a w => a.defers = [] ∧ ∃ β σ, Sim C β σ (a.tmps :: as) w ∧ K e σ = some r

/-- What handles calls tells the truth. -/
def HOk (P : Program) (C : Frm) {R : Type} (H : Handler R) (r : R) : Prop := ∀ (as : List (Array Value)) (β : Nat → Option Loc) (σ : St) (tmps : Array Value) (w : World) (g : FuncId) (nm : Nat) (vs : List V) (xs : Array Value) (K : V → St → Option R),
  Sim C β σ (tmps :: as) w → All2 (V3 (cx C β σ w)) vs xs.toList → H g nm vs σ K = some r →
  (callFunc g xs).run P w = .ok (.enter g xs) w ∧ Calls P g xs w fun e w' => ∃ x, e = .returned x ∧ ∃ β' σ' v, Sim C β' σ' (tmps :: as) w' ∧ V3 (cx C β' σ' w') v x ∧ K v σ' = some r

theorem chk_some {R : Type} {b : Bool} {x : Option R} {r : R} (h : chk b x = some r) : b = true ∧ x = some r := by
  cases b
  · cases h
  · exact ⟨rfl, h⟩

theorem chks_some {R : Type} {bs : List Bool} {x : Option R} {r : R} (h : chks bs x = some r) : (∀ b ∈ bs, b = true) ∧ x = some r := by
  induction bs with
  | nil => exact ⟨by simp, h⟩
  | cons b bs ih =>
    obtain ⟨h1, h2⟩ := chk_some h
    obtain ⟨h3, h4⟩ := ih h2
    exact ⟨fun c hc => by rcases List.mem_cons.1 hc with rfl | hc; exact h1; exact h3 c hc, h4⟩

section
variable {P : Program} {E : Env} {C : Frm} {β : Nat → Option Loc} {σ σ' : St} {a : Act} {as : List (Array Value)} {w : World} {o : Oper} {R : Type} {r : R}

theorem Sim.put (h : Sim C β σ (a.tmps :: as) w) (d : Option Nat) {v : V} {x : Value} (hv : V3 (cx C β σ w) v x) : Sim C β (σ.put d v) ((a.put d x).tmps :: as) w := by
  cases d with
  | none => exact h
  | some t => exact h.set t hv

theorem put_defers {d : Option Nat} {x : Value} : (a.put d x).defers = a.defers := by cases d <;> rfl

theorem both_some {x y : Option R} (h : both x y = some r) : x = some r ∧ y = some r := by
  unfold both at h
  split at h
  · rename_i e; exact ⟨h, by rw [← e]; exact h⟩
  · cases h

/-- A slice held against nil. -/
theorem run_nilCmp {t e : TypeId} {A : Option Addr} {n c : Nat} (hu : P.underlying t = some (.slice e)) : (binOp .eql t (.slice A n c) (.slice none 0 0)).run P w = .ok (.bool A.isNone) w ∧ (binOp .neq t (.slice A n c) (.slice none 0 0)).run P w = .ok (.bool (!A.isNone)) w := by
  have key : ∀ d, (Op.equalIn (d + 1) t (.slice A n c) (.slice none 0 0)).run P w = .ok A.isNone w := by
    intro d
    cases A <;> simp [Op.equalIn, run_underlying hu]
  have k : (Op.equal t (.slice A n c) (.slice none 0 0)).run P w = .ok A.isNone w := key 9999
  constructor <;> simp only [binOp, Sem.run_bind, k, Result.andThen_ok, Sem.run_pure]

theorem slice_parts (h : Sim C β σ (a.tmps :: as) w) {x : Operand} {n : Int} (hl : lenV σ (σ.eval x) = some n) (hs : ∀ s, σ.eval x ≠ .str s) : ∃ A m c, a.eval x = .slice A m c ∧ (m : Int) = n ∧ (A = none → n = 0) := by
  have hx := h.eval x
  unfold lenV at hl
  split at hl
  · rename_i t l hv
    rw [hv] at hx
    obtain ⟨A, c, e, hc, hel⟩ := (show DRel (Free C σ.mem β w) w (.list t) l [a.eval x] from hx)
    injection e with e
    injection hl with hl
    refine ⟨A, _, c, e, hl, fun hA => ?_⟩
    cases l with
    | nil => rw [← hl]; rfl
    | cons y l => obtain ⟨ad, _, h1, _⟩ := hel 0 y rfl; rw [hA] at h1; cases h1
  · rename_i hv; rw [hv] at hx
    injection hl with hl
    exact ⟨none, 0, 0, hx, hl, fun _ => hl.symm⟩
  · rename_i s hv; exact absurd hv (hs s)
  · rename_i en hv; rw [hv] at hx
    obtain ⟨t', l', hl', A, c, e, hc, hcase⟩ := hx
    have hl' : look σ.mem en = _ := hl'
    simp only [hl', Option.some.injEq] at hl
    refine ⟨A, _, c, e, hl, fun hA => ?_⟩
    rcases hcase with h0 | ⟨L, _, h1, _⟩
    · omega
    · rw [hA] at h1; cases h1
  · rename_i en oo m hv; rw [hv] at hx
    obtain ⟨t', l', _, _, ⟨A, c, e, hc, hcase⟩, _⟩ := hx
    injection hl with hl
    refine ⟨A, _, c, e, hl, fun hA => ?_⟩
    rcases hcase with h0 | ⟨L, _, h1, _⟩
    · omega
    · rw [hA] at h1; cases h1
  · cases hl

theorem evNil_sound (hT : TtOk P E.tt) {K : St → Option R} {next : Act → World → Prop} {Q : Exit → Act → World → Prop} (h : Sim C β σ (a.tmps :: as) w) (hd : a.defers = [])
    (hn : ∀ (a' : Act) w' β' σ', a'.defers = [] → Sim C β' σ' (a'.tmps :: as) w' → K σ' = some r → next a' w') {op : BinOp} {t u : TypeId} {x y : Operand} (hop : o.op = .binOp op t x y u)
    (he : evNil E op t (σ.eval x) (σ.eval y) (lenV σ (σ.eval x)) (fun v => K (σ.put o.dst v)) = some (some r)) : o.wp P a w next Q := by
  have hy := h.eval y
  unfold evNil at he
  split at he
  rotate_left
  · cases he
  rename_i e hk hyv
  rw [hyv] at hy
  have hy : a.eval y = .slice none 0 0 := hy
  have hu := hT.slice t e hk
  have fin : ∀ {b : Bool} {A : Option Addr} {n c : Nat}, a.eval x = .slice A n c → (op = .eql ∧ b = A.isNone ∨ op = .neq ∧ b = !A.isNone) → K (σ.put o.dst (.bool b)) = some r → o.wp P a w next Q := by
    intro b A n c hx hb hK
    have hg : (eqGuard op t x y (a.eval x) (a.eval y)).run P w = .ok () w := by rw [hx]; exact eqGuard_other (by simp) (by simp)
    have hr : (execOp a.eval o).run P w = .ok (.value (.bool b)) w := by
      simp only [execOp, hop, Sem.run_bind, hg, Result.andThen_ok]
      rw [hx, hy]
      rcases hb with ⟨rfl, rfl⟩ | ⟨rfl, rfl⟩
      · rw [(run_nilCmp (w := w) hu).1]; rfl
      · rw [(run_nilCmp (w := w) hu).2]; rfl
    unfold Oper.wp
    rw [hr]
    exact hn _ _ _ _ (by rw [put_defers]; exact hd) (h.put (a := a) o.dst (v := .bool b) rfl) hK
  have hnilx : σ.eval x = .nil → a.eval x = .slice none 0 0 := fun hv => by
    have := h.eval x
    rw [hv] at this
    exact this
  split at he
  · simp only [Option.some.injEq] at he
    split at he
    · rename_i hv
      exact fin (hnilx hv) (.inl ⟨rfl, rfl⟩) he
    · cases he
    · rename_i n hl hnn hns
      obtain ⟨A, m, c, hxv, hm, hA⟩ := slice_parts h hl (fun s hs => hns s hs)
      cases hz : n == 0 with
      | true =>
        rw [hz] at he
        obtain ⟨h1, h2⟩ := both_some he
        cases A with
        | none => exact fin hxv (.inl ⟨rfl, rfl⟩) h1
        | some ad => exact fin hxv (.inl ⟨rfl, rfl⟩) h2
      | false =>
        rw [hz] at he
        cases A with
        | none => rw [hA rfl] at hz; simp at hz
        | some ad => exact fin hxv (.inl ⟨rfl, rfl⟩) he
    · cases he
  · simp only [Option.some.injEq] at he
    split at he
    · rename_i hv
      exact fin (hnilx hv) (.inr ⟨rfl, rfl⟩) he
    · cases he
    · rename_i n hl hnn hns
      obtain ⟨A, m, c, hxv, hm, hA⟩ := slice_parts h hl (fun s hs => hns s hs)
      cases hz : n == 0 with
      | true =>
        rw [hz] at he
        obtain ⟨h1, h2⟩ := both_some he
        cases A with
        | none => exact fin hxv (.inr ⟨rfl, rfl⟩) h1
        | some ad => exact fin hxv (.inr ⟨rfl, rfl⟩) h2
      | false =>
        rw [hz] at he
        cases A with
        | none => rw [hA rfl] at hz; simp at hz
        | some ad => exact fin hxv (.inr ⟨rfl, rfl⟩) he
    · cases he
  · cases he

/-- One operation that is carried out. -/
theorem evOp_sound (hT : TtOk P E.tt) {H : Handler R} (hH : HOk P C H r) {d : Nat} {K : St → Option R} {next : Act → World → Prop} {Q : Exit → Act → World → Prop} (h : Sim C β σ (a.tmps :: as) w) (hd : a.defers = [])
    (hn : ∀ (a' : Act) w' β' σ', a'.defers = [] → Sim C β' σ' (a'.tmps :: as) w' → K σ' = some r → next a' w') (he : evOp E H d o σ K = some r) : o.wp P a w next Q := by
  have plain : ∀ {bs v σ1}, op1 E (name d (o.dst.getD 4095)) o.type o.op σ = some (bs, v, σ1) → chks bs (K (σ1.put o.dst v)) = some r → o.wp P a w next Q := by
    intro bs v σ1 h1 h2
    obtain ⟨hbs, hK⟩ := chks_some h2
    obtain ⟨x, w', β', hr, hs, hv⟩ := op1_sound hT h h1 hbs
    unfold Oper.wp
    rcases hr with hr | ⟨hr, rfl⟩ <;> rw [hr]
    · exact hn _ _ _ _ (by rw [put_defers]; exact hd) (hs.put o.dst hv) hK
    · exact hn _ _ _ _ (by rw [put_defers]; exact hd) (hs.put o.dst hv) hK
  unfold evOp at he
  simp only [] at he
  split at he
  · rename_i c hop
    split at he
    · rename_i f hc
      split at he
      · rename_i g caps hf
        have hf1 := h.eval f
        rw [hf] at hf1
        obtain ⟨ys, hfx, hcaps⟩ := hf1
        have hargs : All2 (V3 (cx C β σ w)) (c.args.toList.map σ.eval ++ caps) (c.args.map a.eval ++ ys).toList := by
          rw [Array.toList_append, Array.toList_map]
          refine All2.append ?_ (hcaps.mono fun _ _ => V3.of0)
          generalize c.args.toList = l
          induction l with
          | nil => exact trivial
          | cons y l ih => exact ⟨h.eval y, ih⟩
        obtain ⟨h1, h2⟩ := hH as β σ a.tmps w g _ _ _ _ h hargs he
        unfold Oper.wp
        have hex : (execOp a.eval o).run P w = .ok (.enter g (c.args.map a.eval ++ ys)) w := by
          simp only [execOp, hop, resolve, hc, hfx, Deferred.ofValue, Sem.run_bind, Sem.run_pure, Result.andThen_ok, invoke, Array.empty_append]
          exact h1
        rw [hex]
        refine h2.mono fun e w' ⟨x, hx, β', σ', v, hs, hv, hK⟩ => ?_
        subst hx
        exact hn _ _ _ _ (by rw [put_defers]; exact hd) (hs.put (a := a) o.dst hv) hK
      · cases he
    · split at he
      · rename_i h1
        exact plain h1 he
      · cases he
  · rename_i op t x y u hop
    split at he
    · rename_i q hq
      subst he
      exact evNil_sound hT h hd hn hop hq
    · split at he
      · rename_i h1
        exact plain h1 he
      · cases he
  · split at he
    · rename_i h1
      exact plain h1 he
    · cases he

theorem getD_bool {tmps : Array Value} {t : Nat} {b : Bool} (h : tmps.getD t undef = .bool b) : tmps[t]? = some (.bool b) := by
  rw [Array.getD_eq_getD_getElem?] at h
  cases hx : tmps[t]? with
  | none => rw [hx] at h; simp [undef] at h
  | some x => rw [hx] at h; simp at h; rw [h]

theorem evOps_sound (hT : TtOk P E.tt) {H : Handler R} (hH : HOk P C H r) {d : Nat} {ops : Array Oper} {K : St → Option R} {Q : Exit → Act → World → Prop}
    (hQ : ∀ (a' : Act) w' β' σ', a'.defers = [] → Sim C β' σ' (a'.tmps :: as) w' → K σ' = some r → Q .normal a' w') :
    ∀ (l : List Oper) (k : Nat) (is : List Nat) (a : Act) (w : World) (β : Nat → Option Loc) (σ : St), is = (List.range l.length).map (k + ·) → (∀ j : Nat, j < l.length → ops[k + j]? = l[j]?) → a.defers = [] → Sim C β σ (a.tmps :: as) w → evOps E H d ops l σ K = some r → wpOps P ops Q is a w
  | [], k, is, a, w, β, σ, hi, hl, hd, h, he => by
    subst hi
    exact hQ a w β σ hd h he
  | o :: l, k, is, a, w, β, σ, hi, hl, hd, h, he => by
    have h0 : ops[k]? = some o := by simpa using hl 0 (by simp)
    have his : is = k :: (List.range l.length).map (k + 1 + ·) := by
      rw [hi, List.length_cons, List.range_succ_eq_map, List.map_cons, List.map_map]
      simp only [Nat.add_zero, List.cons.injEq, true_and]
      refine List.map_congr_left fun x _ => ?_
      simp only [Function.comp]; omega
    rw [his]
    have ih := fun a w β σ => evOps_sound (d := d) (Q := Q) hT hH hQ l (k + 1) _ a w β σ rfl (fun j hj => by have := hl (j + 1) (by simpa using hj); simpa [Nat.add_assoc, Nat.add_comm 1 j] using this)
    have run : ∀ σ1, Sim C β σ1 (a.tmps :: as) w → evOp E H d o σ1 (fun σ => evOps E H d ops l σ K) = some r → o.wp P a w (wpOps P ops Q ((List.range l.length).map (k + 1 + ·))) Q :=
      fun σ1 h1 he1 => evOp_sound hT hH (K := fun σ => evOps E H d ops l σ K) h1 hd (fun a' w' β' σ' hd' hs' hK' => ih a' w' β' σ' hd' hs' hK') he1
    have skip : ∀ σ1, Sim C β σ1 (a.tmps :: as) w → evOps E H d ops l (σ1.put o.dst (.tup [])) K = some r → wpOps P ops Q ((List.range l.length).map (k + 1 + ·)) (a.put o.dst undef) w :=
      fun σ1 h1 he1 => ih _ _ _ _ (by rw [put_defers]; exact hd) (h1.put (a := a) o.dst (v := .tup []) (x := undef) ⟨#[], rfl, trivial⟩) he1
    simp only [wpOps, h0]
    simp only [evOps] at he
    split at he
    · rename_i hg
      have hw : Region.wanted o (yielded ops a.tmps) = true := by simp [Region.wanted, hg]
      simp only [hw, if_true]
      exact .inl (run σ h he)
    · rename_i j want hg
      split at he
      · rename_i t ht
        split at he
        · rename_i b hb
          have hv := h.get t
          rw [hb] at hv
          have hv : a.tmps.getD t undef = .bool b := hv
          have hy : yielded ops a.tmps j = some b := by simp [yielded, ht, getD_bool hv]
          have hset : Sim C β (σ.set t (.bool b)) (a.tmps :: as) w := by
            have := h.set t (v := .bool b) (x := .bool b) rfl
            have e : a.tmps.setIfInBounds t (.bool b) = a.tmps := by
              have hx := getD_bool hv
              apply Array.ext_getElem?
              intro i
              rw [Array.getElem?_setIfInBounds]
              by_cases hti : t = i
              · subst hti
                have hlt := (Array.getElem?_eq_some_iff.1 hx).1
                simp only [if_true, hlt, hx]
              · simp [hti]
            rw [e] at this
            exact this
          cases b
          · simp only [cond_false] at he
            cases want
            · simp only [cond_false] at he
              have hw : Region.wanted o (yielded ops a.tmps) = true := by simp [Region.wanted, hg, hy]
              simp only [hw, if_true]
              exact .inl (run _ hset he)
            · simp only [cond_true] at he
              have hw : Region.wanted o (yielded ops a.tmps) = false := by simp [Region.wanted, hg, hy]
              simp only [hw, Bool.false_eq_true, if_false]
              exact skip _ hset he
          · simp only [cond_true] at he
            cases want
            · simp only [cond_false] at he
              have hw : Region.wanted o (yielded ops a.tmps) = false := by simp [Region.wanted, hg, hy]
              simp only [hw, Bool.false_eq_true, if_false]
              exact skip _ hset he
            · simp only [cond_true] at he
              have hw : Region.wanted o (yielded ops a.tmps) = true := by simp [Region.wanted, hg, hy]
              simp only [hw, if_true]
              exact .inl (run _ hset he)
        · rename_i hb
          have hv := h.get t
          rw [hb] at hv
          obtain ⟨ys, hx, hy0⟩ := hv
          have hv : a.tmps.getD t undef = .tuple ys := hx
          have hy : yielded ops a.tmps j = none := by
            simp only [yielded, ht, Option.bind_some]
            rw [Array.getD_eq_getD_getElem?] at hv
            cases hx : a.tmps[t]? with
            | none => rfl
            | some x => rw [hx] at hv; simp at hv; subst hv; rfl
          have hw : Region.wanted o (yielded ops a.tmps) = false := by simp [Region.wanted, hg, hy]
          simp only [hw, Bool.false_eq_true, if_false]
          exact skip _ h he
        · cases he
      · cases he

end
end Go.Proofs.Ytiboikgoaihccaa.R
