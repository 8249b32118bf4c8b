/-
Texts of package route, put together by program.
-/
import Derived.Test.YtiboikgoaihccaaRC
import Derived.Test.YtiboikgoaihccaaProg
import Derived.Test.YtiboikgoaihccaaTt
import Derived.Test.YtiboikgoaihccaaM5
import Derived.KernelRfl
namespace Go.Proofs.Ytiboikgoaihccaa.R

section
open Go.RowKit
set_option linter.unusedVariables false

section
variable {P : Program} {E : Env} {C : Frm} {β : Nat → Option Loc} {σ : St} {us0 : List (Array Value)} {w : World} {a : Act} {o : Oper} {R : Type} {r : R} {I : Array Value → Prop}

/-- What handles calls of the outermost frame tells the truth, where I holds of the frame. -/
def HOkI (P : Program) (C : Frm) (I : Array Value → Prop) {R : Type} (H : Handler R) (r : R) : Prop := ∀ (β : Nat → Option Loc) (σ : St) (tmps : Array Value) (w : World) (g : FuncId) (nm : Nat) (vs : List V) (xs : Array Value) (K : V → St → Option R),
  Sim C β σ (tmps :: []) w → I tmps → All2 (V3 (cx C β σ w)) vs xs.toList → H g nm vs σ K = some r →
  (callFunc g xs).run P w = .ok (.enter g xs) w ∧ Calls P g xs w fun e w' => ∃ x, e = .returned x ∧ ∃ β' σ' v, Sim C β' σ' (tmps :: []) w' ∧ V3 (cx C β' σ' w') v x ∧ K v σ' = some r

theorem evNilI (hT : TtOk P E.tt) {K : St → Option R} {next : Act → World → Prop} {Q : Exit → Act → World → Prop} (h : Sim C β σ (a.tmps :: []) w) (hd : a.defers = [])
    (hI : ∀ x, I (a.put o.dst x).tmps) (hn : ∀ (a' : Act) w' β' σ', a'.defers = [] → Sim C β' σ' (a'.tmps :: []) w' → I a'.tmps → K σ' = some r → next a' w') {op : BinOp} {t u : TypeId} {x y : Operand} (hop : o.op = .binOp op t x y u)
    (he : evNil E op t (σ.eval x) (σ.eval y) (lenV σ (σ.eval x)) (fun v => K (σ.put o.dst v)) = some (some r)) : o.wp P a w next Q := by
  have hy := h.eval y
  unfold evNil at he
  split at he
  rotate_left
  · cases he
  rename_i e hk hyv
  rw [hyv] at hy
  have hy : a.eval y = .slice none 0 0 := hy
  have hu := hT.slice t e hk
  have fin : ∀ {b : Bool} {A : Option Addr} {n c : Nat}, a.eval x = .slice A n c → (op = .eql ∧ b = A.isNone ∨ op = .neq ∧ b = !A.isNone) → K (σ.put o.dst (.bool b)) = some r → o.wp P a w next Q := by
    intro b A n c hx hb hK
    have hg : (eqGuard op t x y (a.eval x) (a.eval y)).run P w = .ok () w := by rw [hx]; exact eqGuard_other (by simp) (by simp)
    have hr : (execOp a.eval o).run P w = .ok (.value (.bool b)) w := by
      simp only [execOp, hop, Sem.run_bind, hg, Result.andThen_ok]
      rw [hx, hy]
      rcases hb with ⟨rfl, rfl⟩ | ⟨rfl, rfl⟩
      · rw [(run_nilCmp (w := w) hu).1]; rfl
      · rw [(run_nilCmp (w := w) hu).2]; rfl
    unfold Oper.wp
    rw [hr]
    exact hn _ _ _ _ (by rw [put_defers]; exact hd) (h.put (a := a) o.dst (v := .bool b) rfl) (hI _) hK
  have hnilx : σ.eval x = .nil → a.eval x = .slice none 0 0 := fun hv => by
    have := h.eval x
    rw [hv] at this
    exact this
  split at he
  · simp only [Option.some.injEq] at he
    split at he
    · rename_i hv
      exact fin (hnilx hv) (.inl ⟨rfl, rfl⟩) he
    · cases he
    · rename_i n hl hnn hns
      obtain ⟨A, m, c, hxv, hm, hA⟩ := slice_parts h hl (fun s hs => hns s hs)
      cases hz : n == 0 with
      | true =>
        rw [hz] at he
        obtain ⟨h1, h2⟩ := both_some he
        cases A with
        | none => exact fin hxv (.inl ⟨rfl, rfl⟩) h1
        | some ad => exact fin hxv (.inl ⟨rfl, rfl⟩) h2
      | false =>
        rw [hz] at he
        cases A with
        | none => rw [hA rfl] at hz; simp at hz
        | some ad => exact fin hxv (.inl ⟨rfl, rfl⟩) he
    · cases he
  · simp only [Option.some.injEq] at he
    split at he
    · rename_i hv
      exact fin (hnilx hv) (.inr ⟨rfl, rfl⟩) he
    · cases he
    · rename_i n hl hnn hns
      obtain ⟨A, m, c, hxv, hm, hA⟩ := slice_parts h hl (fun s hs => hns s hs)
      cases hz : n == 0 with
      | true =>
        rw [hz] at he
        obtain ⟨h1, h2⟩ := both_some he
        cases A with
        | none => exact fin hxv (.inr ⟨rfl, rfl⟩) h1
        | some ad => exact fin hxv (.inr ⟨rfl, rfl⟩) h2
      | false =>
        rw [hz] at he
        cases A with
        | none => rw [hA rfl] at hz; simp at hz
        | some ad => exact fin hxv (.inr ⟨rfl, rfl⟩) he
    · cases he
  · cases he

theorem evOpI (hT : TtOk P E.tt) {H : Handler R} (hH : HOkI P C I H r) {d : Nat} {K : St → Option R} {next : Act → World → Prop} {Q : Exit → Act → World → Prop} (h : Sim C β σ (a.tmps :: []) w) (hd : a.defers = [])
    (h0 : I a.tmps) (hI : ∀ x, I (a.put o.dst x).tmps) (hn : ∀ (a' : Act) w' β' σ', a'.defers = [] → Sim C β' σ' (a'.tmps :: []) w' → I a'.tmps → K σ' = some r → next a' w') (he : evOp E H d o σ K = some r) : o.wp P a w next Q := by
  have plain : ∀ {bs v σ1}, op1 E (name d (o.dst.getD 4095)) o.type o.op σ = some (bs, v, σ1) → chks bs (K (σ1.put o.dst v)) = some r → o.wp P a w next Q := by
    intro bs v σ1 h1 h2
    obtain ⟨hbs, hK⟩ := chks_some h2
    obtain ⟨x, w', β', hr, hs, hv⟩ := op1_sound hT h h1 hbs
    unfold Oper.wp
    rcases hr with hr | ⟨hr, rfl⟩ <;> rw [hr]
    · exact hn _ _ _ _ (by rw [put_defers]; exact hd) (hs.put o.dst hv) (hI _) hK
    · exact hn _ _ _ _ (by rw [put_defers]; exact hd) (hs.put o.dst hv) (hI _) hK
  unfold evOp at he
  simp only [] at he
  split at he
  · rename_i c hop
    split at he
    · rename_i f hc
      split at he
      · rename_i g caps hf
        have hf1 := h.eval f
        rw [hf] at hf1
        obtain ⟨ys, hfx, hcaps⟩ := hf1
        have hargs : All2 (V3 (cx C β σ w)) (c.args.toList.map σ.eval ++ caps) (c.args.map a.eval ++ ys).toList := by
          rw [Array.toList_append, Array.toList_map]
          refine All2.append ?_ (hcaps.mono fun _ _ => V3.of0)
          generalize c.args.toList = l
          induction l with
          | nil => exact trivial
          | cons y l ih => exact ⟨h.eval y, ih⟩
        obtain ⟨h1, h2⟩ := hH β σ a.tmps w g _ _ _ _ h h0 hargs he
        unfold Oper.wp
        have hex : (execOp a.eval o).run P w = .ok (.enter g (c.args.map a.eval ++ ys)) w := by
          simp only [execOp, hop, resolve, hc, hfx, Deferred.ofValue, Sem.run_bind, Sem.run_pure, Result.andThen_ok, invoke, Array.empty_append]
          exact h1
        rw [hex]
        refine h2.mono fun e w' ⟨x, hx, β', σ', v, hs, hv, hK⟩ => ?_
        subst hx
        exact hn _ _ _ _ (by rw [put_defers]; exact hd) (hs.put (a := a) o.dst hv) (hI _) hK
      · cases he
    · split at he
      · rename_i h1
        exact plain h1 he
      · cases he
  · rename_i op t x y u hop
    split at he
    · rename_i q hq
      subst he
      exact evNilI hT h hd hI hn hop hq
    · split at he
      · rename_i h1
        exact plain h1 he
      · cases he
  · split at he
    · rename_i h1
      exact plain h1 he
    · cases he

theorem evOpsI (hT : TtOk P E.tt) {H : Handler R} (hH : HOkI P C I H r) {d : Nat} {ops : Array Oper} {K : St → Option R} {Q : Exit → Act → World → Prop}
    (hQ : ∀ (a' : Act) w' β' σ', a'.defers = [] → Sim C β' σ' (a'.tmps :: []) w' → I a'.tmps → K σ' = some r → Q .normal a' w') :
    ∀ (l : List Oper) (k : Nat) (is : List Nat) (a : Act) (w : World) (β : Nat → Option Loc) (σ : St), is = (List.range l.length).map (k + ·) → (∀ j : Nat, j < l.length → ops[k + j]? = l[j]?) → a.defers = [] → Sim C β σ (a.tmps :: []) w → I a.tmps → (∀ o ∈ l, ∀ (a : Act) x, I a.tmps → I (a.put o.dst x).tmps) → evOps E H d ops l σ K = some r → wpOps P ops Q is a w
  | [], k, is, a, w, β, σ, hi, hl, hd, h, hI0, hIl, he => by
    subst hi
    exact hQ a w β σ hd h hI0 he
  | o :: l, k, is, a, w, β, σ, hi, hl, hd, h, hI0, hIl, he => by
    have h0 : ops[k]? = some o := by simpa using hl 0 (by simp)
    have his : is = k :: (List.range l.length).map (k + 1 + ·) := by
      rw [hi, List.length_cons, List.range_succ_eq_map, List.map_cons, List.map_map]
      simp only [Nat.add_zero, List.cons.injEq, true_and]
      refine List.map_congr_left fun x _ => ?_
      simp only [Function.comp]; omega
    rw [his]
    have hIo := fun x => hIl o (by simp) a x hI0
    have hIr := fun o ho => hIl o (List.mem_cons_of_mem _ ho)
    have ih := fun a w β σ => evOpsI (d := d) (Q := Q) hT hH hQ l (k + 1) _ a w β σ rfl (fun j hj => by have := hl (j + 1) (by simpa using hj); simpa [Nat.add_assoc, Nat.add_comm 1 j] using this)
    have run : ∀ σ1, Sim C β σ1 (a.tmps :: []) w → evOp E H d o σ1 (fun σ => evOps E H d ops l σ K) = some r → o.wp P a w (wpOps P ops Q ((List.range l.length).map (k + 1 + ·))) Q :=
      fun σ1 h1 he1 => evOpI hT hH (K := fun σ => evOps E H d ops l σ K) h1 hd hI0 hIo (fun a' w' β' σ' hd' hs' hI' hK' => ih a' w' β' σ' hd' hs' hI' hIr hK') he1
    have skip : ∀ σ1, Sim C β σ1 (a.tmps :: []) w → evOps E H d ops l (σ1.put o.dst (.tup [])) K = some r → wpOps P ops Q ((List.range l.length).map (k + 1 + ·)) (a.put o.dst undef) w :=
      fun σ1 h1 he1 => ih _ _ _ _ (by rw [put_defers]; exact hd) (h1.put (a := a) o.dst (v := .tup []) (x := undef) ⟨#[], rfl, trivial⟩) (hIo _) hIr he1
    simp only [wpOps, h0]
    simp only [evOps] at he
    split at he
    · rename_i hg
      have hw : Region.wanted o (yielded ops a.tmps) = true := by simp [Region.wanted, hg]
      simp only [hw, if_true]
      exact .inl (run σ h he)
    · rename_i j want hg
      split at he
      · rename_i t ht
        split at he
        · rename_i b hb
          have hv := h.get t
          rw [hb] at hv
          have hv : a.tmps.getD t undef = .bool b := hv
          have hy : yielded ops a.tmps j = some b := by simp [yielded, ht, getD_bool hv]
          have hset : Sim C β (σ.set t (.bool b)) (a.tmps :: []) w := by
            have := h.set t (v := .bool b) (x := .bool b) rfl
            have e : a.tmps.setIfInBounds t (.bool b) = a.tmps := by
              have hx := getD_bool hv
              apply Array.ext_getElem?
              intro i
              rw [Array.getElem?_setIfInBounds]
              by_cases hti : t = i
              · subst hti
                have hlt := (Array.getElem?_eq_some_iff.1 hx).1
                simp only [if_true, hlt, hx]
              · simp [hti]
            rw [e] at this
            exact this
          cases b
          · simp only [cond_false] at he
            cases want
            · simp only [cond_false] at he
              have hw : Region.wanted o (yielded ops a.tmps) = true := by simp [Region.wanted, hg, hy]
              simp only [hw, if_true]
              exact .inl (run _ hset he)
            · simp only [cond_true] at he
              have hw : Region.wanted o (yielded ops a.tmps) = false := by simp [Region.wanted, hg, hy]
              simp only [hw, Bool.false_eq_true, if_false]
              exact skip _ hset he
          · simp only [cond_true] at he
            cases want
            · simp only [cond_false] at he
              have hw : Region.wanted o (yielded ops a.tmps) = false := by simp [Region.wanted, hg, hy]
              simp only [hw, Bool.false_eq_true, if_false]
              exact skip _ hset he
            · simp only [cond_true] at he
              have hw : Region.wanted o (yielded ops a.tmps) = true := by simp [Region.wanted, hg, hy]
              simp only [hw, if_true]
              exact .inl (run _ hset he)
        · rename_i hb
          have hv := h.get t
          rw [hb] at hv
          obtain ⟨ys, hx, hy0⟩ := hv
          have hv : a.tmps.getD t undef = .tuple ys := hx
          have hy : yielded ops a.tmps j = none := by
            simp only [yielded, ht, Option.bind_some]
            rw [Array.getD_eq_getD_getElem?] at hv
            cases hx : a.tmps[t]? with
            | none => rfl
            | some x => rw [hx] at hv; simp at hv; subst hv; rfl
          have hw : Region.wanted o (yielded ops a.tmps) = false := by simp [Region.wanted, hg, hy]
          simp only [hw, Bool.false_eq_true, if_false]
          exact skip _ h he
        · cases he
      · cases he


/-- Code without loops, blocks and draws that writes no slot of ts. -/
def plainC (ts : List Nat) : Code → Bool
  | .skip => true
  | .region _ ops draw => !draw && ops.toList.all fun o => match o.dst with | some t => !ts.contains t | none => true
  | .seq a b => plainC ts a && plainC ts b
  | .cond _ a b => plainC ts a && plainC ts b
  | .ret => true
  | _ => false

/-- The slots of ts hold what they held. -/
def KeepI (ts : List Nat) (t0 : Array Value) : Array Value → Prop := fun tmps => ∀ t ∈ ts, tmps.getD t undef = t0.getD t undef

theorem KeepI.put {ts : List Nat} {t0 : Array Value} {o : Oper} (ho : (match o.dst with | some t => !ts.contains t | none => true) = true) (a : Act) (x : Value) (h : KeepI ts t0 a.tmps) : KeepI ts t0 (a.put o.dst x).tmps := by
  intro t ht
  rw [← h t ht]
  cases hd : o.dst with
  | none => rfl
  | some t' =>
    rw [hd] at ho
    have hne : t' ≠ t := by
      rintro rfl
      simp at ho
      exact ho ht
    show (a.tmps.setIfInBounds t' x).getD t undef = _
    rw [Array.getD_eq_getD_getElem?, Array.getD_eq_getD_getElem?, Array.getElem?_setIfInBounds, if_neg hne]

theorem evCodeI (hT : TtOk P E.tt) {ts : List Nat} {t0 : Array Value} {H : Handler R} (hH : HOkI P C (KeepI ts t0) H r) {d f : Nat} : ∀ (c : Code) (K : Kl R) (β : Nat → Option Loc) (σ : St) (a : Act) (w : World), plainC ts c = true → Sim C β σ (a.tmps :: []) w → a.defers = [] → KeepI ts t0 a.tmps → evCode E H d f c σ K = some r →
    c.wp P (fun e a' w' => Good C [] K r e a' w' ∧ KeepI ts t0 a'.tmps) a w := by
  intro c
  induction c with
  | skip => intro K β σ a w hp h hd hI he; exact wp_skip ⟨⟨hd, β, σ, h, he⟩, hI⟩
  | region id ops draw =>
    intro K β σ a w hp h hd hI he
    simp only [plainC, Bool.and_eq_true] at hp
    simp only [evCode] at he
    cases draw with
    | true => simp at hp
    | false =>
      refine wp_region (evOpsI (d := d) hT hH (K := K .normal) (fun a' w' β' σ' hd' hs' hI' hK' => ⟨⟨hd', β', σ', hs', hK'⟩, hI'⟩) ops.toList 0 _ a w β σ ?_ ?_ hd h hI (fun o ho a x hx => KeepI.put (List.all_eq_true.1 hp.2 o ho) a x hx) he)
      · simp
      · simp
  | seq x y ihx ihy =>
    intro K β σ a w hp h hd hI he
    simp only [plainC, Bool.and_eq_true] at hp
    simp only [evCode] at he
    refine wp_seq (wp_mono (ihx _ β σ a w hp.1 h hd hI he) fun e a' w' hg => ?_)
    cases e with
    | normal =>
      obtain ⟨⟨hd1, β1, σ1, h1, he1⟩, hI1⟩ := hg
      exact ihy K β1 σ1 a' w' hp.2 h1 hd1 hI1 he1
    | _ => exact hg
  | cond x c1 c2 ih1 ih2 =>
    intro K β σ a w hp h hd hI he
    simp only [plainC, Bool.and_eq_true] at hp
    simp only [evCode] at he
    split at he
    · rename_i b hb
      have hv := h.eval x
      rw [hb] at hv
      have hv : a.eval x = .bool b := hv
      refine wp_cond hv ?_
      cases b
      · exact ih2 K β σ a w hp.2 h hd hI he
      · exact ih1 K β σ a w hp.1 h hd hI he
    · cases he
  | ret => intro K β σ a w hp h hd hI he; exact wp_ret ⟨⟨hd, β, σ, h, he⟩, hI⟩
  | _ => intro K β σ a w hp h hd hI he; simp [plainC] at hp

end
end

section
open Go.RowKit
set_option linter.unusedVariables false

/-- The second colour of a type: the same data, other blocks. -/
@[reducible] def col (t : Ty) : Ty := .one (.one t)
@[reducible] def cI : Ty := col (.int .i64)

def uncol1 : V → V
  | .ro (.one (.one t)) l => .ro t l
  | v => v
def hasCol : V → Bool
  | .ro (.one (.one _)) _ => true
  | _ => false
def col1 : V → V
  | .ro (.int .i64) l => .ro cI l
  | v => v

/-- What holds rows of i64 alone. -/
def nestI : Ty → Bool
  | .list (.int .i64) => true
  | .list _ => false
  | .pair a b => nestI a && nestI b
  | .one a => nestI a
  | _ => true
def nest1 : V → Bool
  | .int _ _ | .bool _ | .str _ => true
  | .own t _ => nestI t
  | _ => false
def nestV : V → Bool
  | .tup vs => vs.all nest1
  | _ => false

/-- A call with data of the second colour: its result is flat. -/
def callC1 {R : Type} (s : Summ) (nm : Nat) (vs : List V) (σ : St) (K : V → St → Option R) : Option R :=
  match s.alt with
  | some _ => none
  | none => (s.call ((vs.map (pureV σ)).map uncol1)).bind fun x => bif flatV (s.res x) then (let (v, σ') := adopt nm (s.res x) σ; K v σ') else none

noncomputable def callX {R : Type} (E : Env) : Nat → Nat → Handler R
  | 0, _ => fun g nm vs σ K => match lookS E.sums g with
    | some s => bif vs.any hasCol then callC1 s nm vs σ K else callS s nm vs σ K
    | none => none
  | c + 1, d => fun g nm vs σ K => match lookS E.sums g with
    | some s => bif vs.any hasCol then callC1 s nm vs σ K else callS s nm vs σ K
    | none => match lookF E.inl g with
      | some fn => match fn.body with
        | some code => evCode E (callX E c (d + 1)) (d + 1) g code { fr := entry fn vs, outs := (doGhost σ (.kill (E.dead g nm))).fr :: σ.outs, mem := σ.mem } (retK E.tt fn (retN nm K))
        | none => none
      | none => none

/-- May it be an argument beside rows of i64? -/
def okA1 : V → Bool
  | .int _ _ | .bool _ | .str _ => true
  | .ro (.pair a b) _ => a.flat && b.flat
  | .ro (.one (.one (.int .i64))) _ => true
  | _ => false
def okA : V → Bool
  | .agg cs => cs.all okA1
  | v => okA1 v

/-- A call whose nested rows are fresh. -/
def apartS {R : Type} (s : Summ) (nm : Nat) (vs : List V) (σ : St) (K : V → St → Option R) : Option R :=
  match s.alt with
  | some _ => none
  | none => bif ((vs.map (pureV σ)).map col1).all okA then (s.call ((vs.map (pureV σ)).map col1)).bind fun x => bif nestV (s.res x) then (let (v, σ') := adopt nm (s.res x) σ; K v σ') else none else none

def simple1 : V → Bool
  | .int _ _ | .bool _ | .str _ | .nil | .undef | .slw _ | .sl _ _ _ => true
  | _ => false
def flatE : Entry → Bool
  | .row t _ => t.flat
  | _ => false
def killN (σ : St) : St := (σ.mem.filter fun p => !flatE p.2).foldl (fun σ p => σ.kill p.1) σ
def spoiled (tc : Nat) (σ : St) : Option St :=
  match σ.get tc with
  | .ro (.one (.one (.int .i64))) cs => bif ((killN σ).mem.all fun p => flatE p.2) && (killN σ).outs.isEmpty then
      some { fr := ((killN σ).fr.map fun v => bif simple1 v then v else .undef).set tc (.ro cI cs), outs := [], mem := (killN σ).mem } else none
  | _ => none
/-- Are the rows within not too long? -/
def lenB : (t : Ty) → t.den → Bool
  | .list (.int _), l => decide (l.length < 4611686018427387904)
  | .pair a b, x => lenB a x.1 && lenB b x.2
  | _, _ => true
/-- A call that writes over what lies in the row that it is given. -/
def spoilS {R : Type} (t : Ty) (tc : Nat) (vs : List V) (σ : St) (K : V → St → Option R) : Option R :=
  match vs with
  | [.slw e] => match look σ.mem e with
    | some (.row t' l) => if t' = t then bif decide (0 < l.length) && (decide (l.length < 4611686018427387904) && l.all (lenB t')) then (spoiled tc σ).bind fun σ' => K (.tup []) σ' else none else none
    | _ => none
  | _ => none

theorem DRel.nest {B B' : Ty × Nat → Prop} {w : World} (hB : ∀ g, B (.int .i64, g) → B' (.int .i64, g)) : ∀ {t : Ty} {x : t.den} {ys : List Value}, nestI t = true → DRel B w t x ys → DRel B' w t x ys
  | .int _, _, _, _, h => h
  | .bool, _, _, _, h => h
  | .str, _, _, _, h => h
  | .list (.int .i64), l, _, _, h => by
    obtain ⟨A, c, e, hc, h⟩ := h
    refine ⟨A, c, e, hc, fun i x hx => ?_⟩
    obtain ⟨ad, zs, e1, e2, e3, e4⟩ := h i x hx
    exact ⟨ad, zs, e1, hB _ e2, e3, e4⟩
  | .pair a b, _, _, hf, h => by
    simp only [nestI, Bool.and_eq_true] at hf
    obtain ⟨y1, y2, e, h1, h2⟩ := h
    exact ⟨y1, y2, e, h1.nest hB hf.1, h2.nest hB hf.2⟩
  | .one a, _, _, hf, h => by
    simp only [DRel] at h ⊢
    simp only [nestI] at hf
    exact h.nest hB hf

section
variable {P : Program} {E : Env} {C : Frm} {β : Nat → Option Loc} {σ : St} {us0 : List (Array Value)} {w w' : World} {R : Type} {r : R}

theorem uncol_rel {F B : Ty × Nat → Prop} (h1 : ∀ g, F g → B g) (h2 : ∀ t g, F (col t, g) → B (t, g)) {v : V} {x : Value} (h : V3 (cxP F w) v x) : V3 (cxP B w) (uncol1 v) x := by
  have base : ∀ v, V3 (cxP F w) v x → V3 (cxP B w) v x := fun v h => V3.keeps (S := cxP F w) (S' := cxP B w) ⟨(fun e E hE => by cases hE), (fun _ _ => rfl), h1, (fun _ _ => rfl)⟩ h
  unfold uncol1
  split
  · rename_i t l
    have h : DRel F w (.list (.one (.one t))) l [x] := h
    obtain ⟨A, c, e, hc, h⟩ := h
    show DRel B w (.list t) l [x]
    refine ⟨A, c, e, hc, fun i y hy => ?_⟩
    obtain ⟨ad, zs, e1, e2, e3, e4⟩ := h i y hy
    exact ⟨ad, zs, e1, h2 t _ e2, (show DRel F w t y zs from e3).mono h1 (fun _ _ => rfl), e4⟩
  · exact base _ h

/-- What a call reads of its arguments. -/
theorem args_pure (h : Sim C β σ us0 w) {vs : List V} {xs : Array Value} (hv : All2 (V3 (cx C β σ w)) vs xs.toList) : All2 (V3 (cxP (Free C (σ.frzAll (argCells vs)).mem β w) w)) (vs.map (Go.Proofs.Ytiboikgoaihccaa.R.pureV σ)) xs.toList :=
  All2.map_mem (fun v hvm y hy => h.pureFV (argCells vs) (fun u hu => argCells_mem hvm hu) hy) hv

theorem callC1_sound {g : FuncId} {s : Summ} (hs : SumOk P g s) {nm : Nat} {vs : List V} {xs : Array Value} {K : V → St → Option R} (h : Sim C β σ us0 w) (hv : All2 (V3 (cx C β σ w)) vs xs.toList) (he : callC1 s nm vs σ K = some r) :
    (callFunc g xs).run P w = .ok (.enter g xs) w ∧ Calls P g xs w fun e w' => ∃ x, e = .returned x ∧ ∃ β' σ' v, Sim C β' σ' us0 w' ∧ V3 (cx C β' σ' w') v x ∧ K v σ' = some r := by
  refine ⟨run_enter hs.1 xs w, ?_⟩
  unfold callC1 at he
  cases ha : s.alt with
  | some m => rw [ha] at he; cases he
  | none =>
    rw [ha] at he
    simp only [] at he
    cases hx : s.call ((vs.map (Go.Proofs.Ytiboikgoaihccaa.R.pureV σ)).map uncol1) with
    | none => rw [hx] at he; cases he
    | some x =>
      rw [hx] at he
      simp only [Option.bind_some] at he
      cases hfl : flatV (s.res x) with
      | false => rw [hfl] at he; cases he
      | true =>
        rw [hfl] at he
        have hargs : All2 (V3 (cxP (fun g => Free C (σ.frzAll (argCells vs)).mem β w g ∨ Free C (σ.frzAll (argCells vs)).mem β w (col g.1, g.2)) w)) ((vs.map (Go.Proofs.Ytiboikgoaihccaa.R.pureV σ)).map uncol1) xs.toList :=
          (args_pure h hv).map uncol1 fun v y hy => uncol_rel (fun g hg => .inl hg) (fun t g hg => .inr hg) hy
        refine (hs.2.1 _ w _ xs x (fun b hb => hb.elim (fun h => h.1) (fun h => h.1)) hargs hx).mono fun e w' ⟨y, hy, hr⟩ => ⟨y, hy, ?_⟩
        obtain ⟨β', h1, h2⟩ := adopt_sound h (hr.flatten (B' := fun _ => False) hfl) (fun _ hh => hh.elim) nm
        exact ⟨β', _, _, h1, h2, he⟩

theorem callX_sound (hT : TtOk P E.tt) (hS : SumsOk P E) (hI : InlOk P E) (hD : ∀ H : Handler R, HOk P C H r → DrawOk P E C H r) : ∀ (c d : Nat), HOk P C (callX (R := R) E c d) r
  | 0, d => by
    intro us0 β σ tmps w g nm vs xs K h hv he
    unfold callX at he
    split at he
    · rename_i s hs
      cases hc : vs.any hasCol with
      | true => rw [hc] at he; exact callC1_sound (hS g s hs) h hv he
      | false => rw [hc] at he; exact callS_sound (hS g s hs) h hv he
    · cases he
  | c + 1, d => by
    intro us0 β σ tmps w g nm vs xs K h hv he
    unfold callX at he
    split at he
    · rename_i s hs
      cases hc : vs.any hasCol with
      | true => rw [hc] at he; exact callC1_sound (hS g s hs) h hv he
      | false => rw [hc] at he; exact callS_sound (hS g s hs) h hv he
    · split at he
      · rename_i fn hf
        split at he
        · rename_i code hb
          obtain ⟨hP, hn⟩ := hI g fn hf
          refine ⟨run_enter ⟨fn, code, hP, hn, hb⟩ xs w, calls_of_wp hP hb ?_⟩
          have ih := callX_sound hT hS hI hD c (d + 1)
          have hk : Sim C β { fr := (doGhost σ (.kill (E.dead g nm))).fr, outs := σ.outs, mem := σ.mem } (tmps :: us0) w := by
            have : ∀ (ts : List Nat) (σ1 : St), σ1.outs = σ.outs → σ1.mem = σ.mem → Sim C β σ1 (tmps :: us0) w → Sim C β { fr := (ts.foldl (fun σ t => σ.set t .undef) σ1).fr, outs := σ.outs, mem := σ.mem } (tmps :: us0) w := by
              intro ts
              induction ts with
              | nil =>
                intro σ1 h1 h2 h3
                cases σ1
                simp only [] at h1 h2
                subst h1; subst h2
                exact h3
              | cons t ts ih => intro σ1 h1 h2 h3; exact ih (σ1.set t .undef) h1 h2 (h3.setUndef t)
            exact this _ σ rfl rfl h
          have hsim : Sim C β { fr := entry fn vs, outs := (doGhost σ (.kill (E.dead g nm))).fr :: σ.outs, mem := σ.mem } ((xs ++ Array.replicate (fn.ntmps - xs.size) undef) :: tmps :: us0) w :=
            ⟨h.frm, ⟨entry_rel hv, hk.fr⟩, h.ent, h.inj, h.own⟩
          exact wp_mono (evCode_sound hT ih (hD _ ih) code (retK E.tt fn (retN nm K)) β _ { tmps := xs ++ Array.replicate (fn.ntmps - xs.size) undef, defers := [] } w hsim rfl he) fun e a' w' hg => bodyPost_less (retK_sound hT hg) fun e w' ⟨x, ex, β', σ', u, h1, h2, h3⟩ => by
            obtain ⟨β2, σ2, v2, g1, g2, g3⟩ := retN_sound h1 h2 h3
            exact ⟨x, ex, β2, σ2, v2, g1, g2, g3⟩
        · cases he
      · cases he

/-- What a call of that kind may read: rows of i64 are read as data of the second colour. -/
def apB (F : Ty × Nat → Prop) : Ty × Nat → Prop := fun g => match g.1 with
  | .pair a b => F (.pair a b, g.2)
  | .one (.one (.int .i64)) => F (.int .i64, g.2) ∨ F (cI, g.2)
  | _ => False

/-! ### Results whose rows lie in fresh blocks -/
theorem nest_valT {M : List (Nat × Entry)} {b : Nat → Option Loc} {B B' : Ty × Nat → Prop} : ∀ (k : Nat) (cs : List V) {ys : List Value}, cs.all nest1 = true → All2 (V2 ⟨M, b, B, w⟩) (relabT k cs) ys → All2 (V2 ⟨M, b, B', w⟩) (relabT k cs) ys
  | _, [], ys, _, h => by cases ys <;> simp_all [relabT, All2]
  | k, c :: cs, ys, hf, h => by
    simp only [List.all_cons, Bool.and_eq_true] at hf
    cases ys with
    | nil => exact h.elim
    | cons y ys =>
      refine ⟨?_, nest_valT _ cs hf.2 h.2⟩
      have h1 := h.1
      have h0 := hf.1
      cases c <;> simp only [nest1, Bool.false_eq_true] at h0 <;> exact h1

theorem nest_owns : ∀ (cs : List V) (k : Nat) {E : Entry}, cs.all nest1 = true → (owns (cs.flatMap V.cells))[k]? = some E → ∃ t l, E = .row t l ∧ nestI t = true
  | [], _, _, _, h => by simp [owns] at h
  | c :: cs, k, E, hf, h => by
    simp only [List.all_cons, Bool.and_eq_true] at hf
    have h0 := hf.1
    cases c with
    | own t l =>
      simp only [List.flatMap_cons, V.cells, List.singleton_append, owns] at h
      cases k with
      | zero => simp only [List.getElem?_cons_zero, Option.some.injEq] at h; exact ⟨t, l, h.symm, h0⟩
      | succ k => exact nest_owns cs k hf.2 (by simpa using h)
    | int a b => exact nest_owns cs k hf.2 h
    | bool a => exact nest_owns cs k hf.2 h
    | str a => exact nest_owns cs k hf.2 h
    | _ => simp [nest1] at h0

theorem Ret.nest {B : Ty × Nat → Prop} {v : V} {y : Value} (hf : nestV v = true) (hB : ∀ g, ¬ B (.int .i64, g)) (h : Ret B w w' v y) : Ret (fun _ => False) w w' v y := by
  cases v with
  | tup vs =>
    have hf : vs.all nest1 = true := hf
    obtain ⟨hg, Ls, h⟩ := h
    refine ⟨hg, Ls, h.len, fun nm => ?_, fun k E hE => ?_, h.inj, h.fresh⟩
    · obtain ⟨ys, rfl, h1⟩ := h.val nm
      exact ⟨ys, rfl, nest_valT nm vs hf h1⟩
    · obtain ⟨t, l, rfl, ht⟩ := nest_owns vs k hf hE
      rcases h.ent k _ hE with h1 | ⟨L, cs, el, h1, h2, h3, h4, h5⟩
      · exact .inl h1
      · refine .inr ⟨L, cs, el, h1, h2, h3, h4, fun i x hx => ?_⟩
        obtain ⟨zs, hz, hc⟩ := h5 i x hx
        exact ⟨zs, hz.nest (fun g hg => ⟨hg.1, .inr (hg.2.1.resolve_left (hB g)), hg.2.2⟩) ht, hc⟩
  | _ => cases hf

theorem col1_ok {F B : Ty × Nat → Prop} (h1 : ∀ a b g, F (.pair a b, g) → B (.pair a b, g)) (h2 : ∀ g, F (.int .i64, g) → B (cI, g)) (h3 : ∀ g, F (cI, g) → B (cI, g)) {v : V} {x : Value} (hk : okA (col1 v) = true) (h : V3 (cxP F w) v x) : V3 (cxP B w) (col1 v) x := by
  have cell : ∀ v x, okA1 v = true → V1 (cxP F w) v x → V1 (cxP B w) v x := by
    intro v x hk h
    unfold okA1 at hk
    split at hk
    · exact h
    · exact h
    · exact h
    · rename_i a b l
      simp only [Bool.and_eq_true] at hk
      obtain ⟨A, c, e, hc, h⟩ := (show DRel F w (.list (.pair a b)) l [x] from h)
      show DRel B w (.list (.pair a b)) l [x]
      refine ⟨A, c, e, hc, fun i y hy => ?_⟩
      obtain ⟨ad, zs, e1, e2, e3, e4⟩ := h i y hy
      exact ⟨ad, zs, e1, h1 _ _ _ e2, e3.flat (by simp only [Ty.flat, hk.1, hk.2, Bool.and_self]), e4⟩
    · rename_i l
      obtain ⟨A, c, e, hc, h⟩ := (show DRel F w (.list cI) l [x] from h)
      show DRel B w (.list cI) l [x]
      refine ⟨A, c, e, hc, fun i y hy => ?_⟩
      obtain ⟨ad, zs, e1, e2, e3, e4⟩ := h i y hy
      exact ⟨ad, zs, e1, h3 _ e2, e3, e4⟩
    · cases hk
  have cells : ∀ (cs : List V) (ys : List Value), cs.all okA1 = true → All2 (V1 (cxP F w)) cs ys → All2 (V1 (cxP B w)) cs ys := fun cs ys hk h =>
    h.mono_mem fun a b ha hab => cell a b (List.all_eq_true.1 hk a ha) hab
  cases v with
  | agg cs =>
    obtain ⟨ys, rfl, h⟩ := h
    exact ⟨ys, rfl, cells cs _ hk h⟩
  | ro t l =>
    unfold col1 at hk ⊢
    split
    · rename_i t' l' e
      injection e with e1 e2
      subst e1
      have e2 := eq_of_heq e2
      subst e2
      obtain ⟨A, c, e, hc, h⟩ := (show DRel F w (.list (.int .i64)) l [x] from h)
      show DRel B w (.list cI) l [x]
      refine ⟨A, c, e, hc, fun i y hy => ?_⟩
      obtain ⟨ad, zs, e1, e2, e3, e4⟩ := h i y hy
      exact ⟨ad, zs, e1, h2 _ e2, e3, e4⟩
    · rename_i hn
      split at hk
      · rename_i l' e
        exact absurd e (hn _)
      · exact cell (.ro t l) x hk h
  | int k n => exact h
  | bool b => exact h
  | str s => exact h
  | _ => cases hk

theorem apartS_sound {g : FuncId} {s : Summ} (hs : SumOk P g s) {nm : Nat} {vs : List V} {xs : Array Value} {K : V → St → Option R} (h : Sim C β σ us0 w) (hv : All2 (V3 (cx C β σ w)) vs xs.toList) (he : apartS s nm vs σ K = some r) :
    (callFunc g xs).run P w = .ok (.enter g xs) w ∧ Calls P g xs w fun e w' => ∃ x, e = .returned x ∧ ∃ β' σ' v, Sim C β' σ' us0 w' ∧ V3 (cx C β' σ' w') v x ∧ K v σ' = some r := by
  refine ⟨run_enter hs.1 xs w, ?_⟩
  unfold apartS at he
  cases ha : s.alt with
  | some m => rw [ha] at he; cases he
  | none =>
    rw [ha] at he
    simp only [] at he
    cases hk : ((vs.map (Go.Proofs.Ytiboikgoaihccaa.R.pureV σ)).map col1).all okA with
    | false => rw [hk] at he; cases he
    | true =>
      rw [hk] at he
      simp only [cond_true] at he
      cases hx : s.call ((vs.map (Go.Proofs.Ytiboikgoaihccaa.R.pureV σ)).map col1) with
      | none => rw [hx] at he; cases he
      | some x =>
        rw [hx] at he
        simp only [Option.bind_some] at he
        cases hfl : nestV (s.res x) with
        | false => rw [hfl] at he; cases he
        | true =>
          rw [hfl] at he
          have hargs : All2 (V3 (cxP (apB (Free C (σ.frzAll (argCells vs)).mem β w)) w)) ((vs.map (Go.Proofs.Ytiboikgoaihccaa.R.pureV σ)).map col1) xs.toList := by
            refine All2.map_mem (fun v hvm y hy => ?_) (args_pure h hv)
            exact col1_ok (F := Free C (σ.frzAll (argCells vs)).mem β w) (B := apB (Free C (σ.frzAll (argCells vs)).mem β w)) (fun a b g hg => hg) (fun g hg => .inl hg) (fun g hg => .inr hg) (List.all_eq_true.1 hk _ (List.mem_map_of_mem hvm)) hy
          refine (hs.2.1 _ w _ xs x (fun b hb => ?_) hargs hx).mono fun e w' ⟨y, hy, hr⟩ => ⟨y, hy, ?_⟩
          · obtain ⟨t, g⟩ := b
            unfold apB at hb
            simp only [] at hb
            split at hb
            · exact hb.1
            · exact hb.elim (fun h => h.1) (fun h => h.1)
            · exact hb.elim
          · obtain ⟨β', h1, h2⟩ := adopt_sound h (hr.nest hfl (fun g hg => hg)) (fun _ hh => hh.elim) nm
            exact ⟨β', _, _, h1, h2, he⟩

end
end

section
open Go.RowKit
set_option linter.unusedVariables false

/-- What a call may have turned: one block and the blocks of N. -/
structure Turned (N : Nat → Prop) (b : Nat) (w w' : World) : Prop where
  os : w'.os = w.os
  tape : w'.tape = w.tape
  output : w'.output = w.output
  size : w.heap.size ≤ w'.heap.size
  block : ∀ g, g < w.heap.size → g ≠ b → ¬ N g → w'.heap[g]? = w.heap[g]?

/-- A function that writes over what lies in the row that it is given. -/
def SpoilOk (P : Program) (g : FuncId) (t : Ty) : Prop := Enters P g ∧ ∀ (B : Nat → Prop) (w : World) (L : Loc) (l : List t.den) (cs : Array Value) (el : TypeId) (x : Value), l ≠ [] → l.length < 4611686018427387904 → l.all (lenB t) = true → w.heap[L.g]? = some (.cells cs el (0, 0)) → cs.size = L.cells → L.base + l.length * t.size ≤ L.cells →
  (∀ (i : Nat) y, l[i]? = some y → ∃ zs, DRel (fun g => B g.2) w t y zs ∧ ∀ (j : Nat) z, zs[j]? = some z → cs[L.base + i * t.size + j]? = some z) → SlAt (some L) t.size 0 l.length x → ¬ B L.g → (∀ b, B b → b < w.heap.size ∧ ∀ cs el fz, w.heap[b]? = some (.cells cs el fz) → fz = (0, 0)) →
  Calls P g #[x] w fun e w' => e = .returned (.tuple #[]) ∧ Turned B L.g w w'

section
variable {P : Program} {E : Env} {C : Frm} {β : Nat → Option Loc} {σ : St} {us0 : List (Array Value)} {w w' : World} {R : Type} {r : R}

theorem killN_sim (h : Sim C β σ us0 w) : Sim C β (killN σ) us0 w := by
  unfold killN
  generalize σ.mem.filter (fun p => !flatE p.2) = l
  induction l generalizing σ with
  | nil => exact h
  | cons p l ih => exact ih (h.kill p.1)

theorem kill_sub {e e' : Nat} {E : Entry} (h : look (σ.kill e).mem e' = some E) (hf : flatE E = true) : look σ.mem e' = some E := by
  rw [look_kill] at h
  by_cases he : e' = e
  · simp [he] at h
  · simp only [he, if_false, Option.map_eq_some_iff] at h
    obtain ⟨E', h1, h2⟩ := h
    cases E' with
    | row t l =>
      have h2 : Entry.row t l = E := h2
      rw [h1, h2]
    | box cs =>
      have h2 : Entry.box (cs.map (V.mapC (killV e))) = E := h2
      subst h2
      cases hf

theorem killN_sub {e' : Nat} {E : Entry} (h : look (killN σ).mem e' = some E) (hf : flatE E = true) : look σ.mem e' = some E := by
  unfold killN at h
  revert h
  generalize σ.mem.filter (fun p => !flatE p.2) = l
  induction l generalizing σ with
  | nil => exact fun h => h
  | cons p l ih => exact fun h => kill_sub (ih h) hf

theorem look_all {m : List (Nat × Entry)} {e : Nat} {E : Entry} (hm : (m.all fun p => flatE p.2) = true) (h : look m e = some E) : flatE E = true := by
  induction m with
  | nil => cases h
  | cons p m ih =>
    obtain ⟨k, x⟩ := p
    simp only [List.all_cons, Bool.and_eq_true] at hm
    rw [look_cons] at h
    by_cases he : k = e
    · rw [if_pos he] at h
      obtain rfl := Option.some.inj h
      exact hm.1
    · rw [if_neg he] at h
      exact ih hm.2 h

/-- What asks nothing of memory but where its rows are. -/
theorem simple_turn {m : List (Nat × Entry)} {B B' : Ty × Nat → Prop} {v : V} {x : Value} (hs : simple1 v = true) (h : V3 ⟨m, β, B, w⟩ v x) : V3 ⟨m, β, B', w'⟩ v x := by
  cases v <;> simp only [simple1, Bool.false_eq_true] at hs <;> exact h

theorem DRel.same {B B' : Ty × Nat → Prop} {l l' : List Int} {x : Value} (h : DRel B w (.list cI) l [x]) (h' : DRel B' w (.list cI) l' [x]) : l = l' := by
  obtain ⟨A, c, e, hc, h⟩ := h
  obtain ⟨A', c', e', hc', h'⟩ := h'
  rw [e] at e'
  injection e' with e'
  injection e' with e1 e2 e3
  subst e1
  refine List.ext_getElem? fun i => ?_
  by_cases hi : i < l.length
  · have hi' : i < l'.length := by omega
    obtain ⟨ad, zs, a1, _, a3, a4⟩ := h i _ (List.getElem?_eq_getElem hi)
    obtain ⟨ad', zs', b1, _, b3, b4⟩ := h' i _ (List.getElem?_eq_getElem hi')
    rw [a1] at b1
    obtain rfl := Option.some.inj b1
    have a3 : zs = [.int .i64 l[i]] := a3
    have b3 : zs' = [.int .i64 l'[i]] := b3
    subst a3 b3
    have c1 := a4 0 _ rfl
    have c2 := b4 0 _ rfl
    rw [c1] at c2
    have c2 := Option.some.inj c2
    injection c2 with _ c2
    rw [List.getElem?_eq_getElem hi, List.getElem?_eq_getElem hi', c2]
  · rw [List.getElem?_eq_none (by omega), List.getElem?_eq_none (by omega)]

/-- A value that reads, in all worlds that hold what was there, as data of the second colour. -/
def OldAt (C : Frm) (v : Value) (cs : List Int) : Prop := DRel (fun g => g.2 < C.w0.heap.size ∧ ¬ C.hid g ∧ ¬ C.G g.2) C.w0 (.list cI) cs [v]

theorem spoilS_sound {g : FuncId} {t : Ty} (hs : SpoilOk P g t) (hn : nestI t = true) (hnf : t.flat = false) (hcI : ∀ g, g < C.w0.heap.size → C.hid (.int .i64, g)) {tc : Nat} {v0 : Value} {cs0 : List Int} (hold : OldAt C v0 cs0) {vs : List V} {xs : Array Value} {tmps : Array Value} {K : V → St → Option R} (htc : tmps.getD tc undef = v0) (h : Sim C β σ [tmps] w) (hv : All2 (V3 (cx C β σ w)) vs xs.toList) (he : spoilS t tc vs σ K = some r) :
    (callFunc g xs).run P w = .ok (.enter g xs) w ∧ Calls P g xs w fun e w' => ∃ x, e = .returned x ∧ ∃ β' σ' v, Sim C β' σ' [tmps] w' ∧ V3 (cx C β' σ' w') v x ∧ K v σ' = some r := by
  refine ⟨run_enter hs.1 xs w, ?_⟩
  unfold spoilS at he
  split at he
  rotate_left
  · cases he
  rename_i e
  split at he
  rotate_left
  · cases he
  rename_i t' l hl
  split at he
  rotate_left
  · cases he
  rename_i ht
  subst ht
  cases hd : decide (0 < l.length) && (decide (l.length < 4611686018427387904) && l.all (lenB t')) with
  | false => rw [hd] at he; cases he
  | true =>
  have hd' := hd
  simp only [Bool.and_eq_true] at hd'
  have hpos := of_decide_eq_true hd'.1
  rw [hd] at he
  simp only [cond_true] at he
  cases hsp : spoiled tc σ with
  | none => rw [hsp] at he; cases he
  | some σ' =>
  rw [hsp] at he
  simp only [Option.bind_some] at he
  -- the argument
  obtain ⟨x, hx⟩ : ∃ x, xs = #[x] := by
    have h1 := hv.length
    obtain ⟨ys⟩ := xs
    match ys, h1 with
    | [y], _ => exact ⟨y, rfl⟩
  subst hx
  have hx : V3 (cx C β σ w) (.slw e) x := hv.1
  obtain ⟨t2, l2, hl2, hsl⟩ := hx
  have hl2 : look σ.mem e = some (.row t2 l2) := hl2
  rw [hl] at hl2
  have hl2 := Option.some.inj hl2
  injection hl2 with h1 h2
  subst h1
  have h2 := eq_of_heq h2
  subst h2
  have hent := h.ent e _ hl
  rcases hent with ⟨h0, _⟩ | ⟨L, cs, el, hL, hb, hsz, hfit, hel⟩
  · subst h0; simp at hpos
  have hL : β e = some L := hL
  have hsl : SlAt (β e) t'.size 0 l.length x := hsl
  rw [hL] at hsl
  have hown : Own σ.mem β L.g := ⟨e, L, by rw [hl]; rfl, hL, rfl⟩
  refine (hs.2 (fun b => Free C σ.mem β w (.int .i64, b)) w L l cs el x (by rintro rfl; simp at hpos) (of_decide_eq_true hd'.2.1) hd'.2.2 hb hsz hfit (fun i y hy => ?_) hsl (fun hf => hf.2 (.inl hown)) (fun b hf => ⟨hf.1, fun cs' el' fz hc => ?_⟩)).mono fun e' w' ⟨he', ht⟩ => ?_
  · obtain ⟨zs, hz, hc⟩ := hel i y hy
    exact ⟨zs, DRel.nest (B := Free C σ.mem β w) (B' := fun g => Free C σ.mem β w (.int .i64, g.2)) (fun g hg => hg) hn hz, hc⟩
  · have h3 : C.w0.heap.size ≤ b := by
      rcases Nat.lt_or_ge b C.w0.heap.size with h3 | h3
      · exact absurd (.inr (.inl (hcI b h3))) hf.2
      · exact h3
    by_cases hz : fz = (0, 0)
    · exact hz
    · exact absurd (.inr (.inr ⟨h3, cs', el', fz, hc, hz⟩)) hf.2
  · refine ⟨_, he', β, σ', .tup [], ?_, ⟨#[], rfl, trivial⟩, he⟩
    -- the state behind
    have hold' : FrmOk C w' := by
      refine ⟨ht.os.trans h.frm.os, ht.tape.trans h.frm.tape, ht.output.trans h.frm.output, Nat.le_trans h.frm.size ht.size, fun g h3 h4 => ?_⟩
      rw [← h.frm.block g h3 h4]
      refine ht.block g (Nat.lt_of_lt_of_le h3 h.frm.size) ?_ fun hf => hf.2 (.inr (.inl (hcI g h3)))
      rintro rfl
      rcases h.own e L (by rw [hl]; rfl) hL with h5 | h5
      · omega
      · exact h4 h5
    unfold spoiled at hsp
    split at hsp
    rotate_left
    · cases hsp
    rename_i cs1 hget
    cases hck : ((killN σ).mem.all fun p => flatE p.2) && (killN σ).outs.isEmpty with
    | false => rw [hck] at hsp; cases hsp
    | true =>
    rw [hck] at hsp
    simp only [cond_true, Option.some.injEq] at hsp
    rw [Bool.and_eq_true] at hck
    subst hsp
    have hk := killN_sim h
    have hownS : ∀ e1 L1, (look (killN σ).mem e1).isSome = true → β e1 = some L1 → w'.heap[L1.g]? = w.heap[L1.g]? := by
      intro e1 L1 h3 h4
      obtain ⟨E1, hE1⟩ := Option.isSome_iff_exists.1 h3
      have hf1 := look_all hck.1 hE1
      have hE0 := killN_sub hE1 hf1
      have hne : e1 ≠ e := by
        rintro rfl
        rw [hl] at hE0
        obtain rfl := Option.some.inj hE0
        have hf1 : t'.flat = true := hf1
        rw [hnf] at hf1
        cases hf1
      have hlt : L1.g < w.heap.size := h.lt hE0 h4
      refine ht.block L1.g hlt (fun hg => hne (h.inj e1 e L1 L (by rw [hE0]; rfl) (by rw [hl]; rfl) h4 hL hg)) fun hf => hf.2 (.inl ⟨e1, L1, by rw [hE0]; rfl, h4, rfl⟩)
    have hfr := hk.fr.1
    have hcs : cs1 = cs0 := by
      have h3 := h.fr.1.2 tc
      rw [htc, show σ.fr.getD tc .undef = .ro (.one (.one (.int .i64))) cs1 from hget] at h3
      refine DRel.same (w := w) (show DRel (Free C σ.mem β w) w (.list cI) cs1 [v0] from h3) (B' := fun g => g.2 < C.w0.heap.size ∧ ¬ C.hid g ∧ ¬ C.G g.2) ?_
      exact DRel.mono (t := .list cI) (fun g hg => hg) (fun g hg => h.frm.block g.2 hg.1 hg.2.2) hold
    refine ⟨hold', ⟨⟨by simpa using hfr.1, fun t => ?_⟩, trivial⟩, fun e1 E1 hE1 => ?_, hk.inj, hk.own⟩
    · show V3 ⟨(killN σ).mem, β, Free C (killN σ).mem β w', w'⟩ ((((killN σ).fr.map fun v => bif simple1 v then v else .undef).set tc (.ro cI cs1)).getD t .undef) (tmps.getD t undef)
      rw [List.getD_eq_getElem?_getD, List.getElem?_set]
      by_cases htt : tc = t
      · subst htt
        rw [if_pos rfl]
        split
        · rw [htc, hcs]
          refine DRel.mono (t := .list cI) (fun g hg => ?_) (fun g hg => hold'.block g.2 hg.1 hg.2.2) hold
          refine ⟨Nat.lt_of_lt_of_le hg.1 hold'.size, ?_⟩
          rintro (⟨e1, L1, h3, h4, h5⟩ | h3 | h3)
          · rcases hk.own e1 L1 h3 h4 with h6 | h6
            · have := hg.1
              omega
            · exact hg.2.2 (h5 ▸ h6)
          · exact hg.2.1 h3
          · have := hg.1
            have := h3.1
            omega
        · exact trivial
      · rw [if_neg htt, List.getElem?_map]
        have h3 := hfr.2 t
        rw [List.getD_eq_getElem?_getD] at h3
        cases hv2 : (killN σ).fr[t]? with
        | none => exact trivial
        | some v2 =>
          rw [hv2] at h3
          simp only [Option.map_some, Option.getD_some] at h3 ⊢
          cases hs2 : simple1 v2 with
          | false => exact trivial
          | true => exact simple_turn hs2 h3
    · have hf1 := look_all hck.1 hE1
      have hE := hk.ent e1 E1 hE1
      cases E1 with
      | box cs => cases hf1
      | row t l =>
        rcases hE with h3 | ⟨L1, cs1, el1, h3, h4, h5, h6, h7⟩
        · exact .inl h3
        · refine .inr ⟨L1, cs1, el1, h3, ?_, h5, h6, fun i x hx => ?_⟩
          · show w'.heap[L1.g]? = _
            rw [hownS e1 L1 (by rw [hE1]; rfl) h3]
            exact h4
          · obtain ⟨zs, hz, hc⟩ := h7 i x hx
            exact ⟨zs, hz.flat hf1, hc⟩

/-- A law's calls: one whose rows are fresh (fr), one that writes over them (fs). -/
noncomputable def lawH {R : Type} (E : Env) (c : Nat) (fr : Nat) (sfr : Summ) (fs : Nat) (ts : Ty) (tc : Nat) : Handler R := fun g nm vs σ K =>
  bif Nat.beq g fr then apartS sfr nm vs σ K else bif Nat.beq g fs then spoilS ts tc vs σ K else callX E c 0 g nm vs σ K

theorem lawH_sound (hT : TtOk P E.tt) (hS : SumsOk P E) (hI : InlOk P E) (hD : ∀ H : Handler R, HOk P C H r → DrawOk P E C H r) {c fr : Nat} {sfr : Summ} (hfr : SumOk P fr sfr) {fs : Nat} {ts : Ty} (hfs : SpoilOk P fs ts) (hn : nestI ts = true) (hnf : ts.flat = false) (hcI : ∀ g, g < C.w0.heap.size → C.hid (.int .i64, g)) {tc : Nat} {t0 : Array Value} {cs0 : List Int} (hold : OldAt C (t0.getD tc undef) cs0) :
    HOkI P C (KeepI [tc] t0) (lawH (R := R) E c fr sfr fs ts tc) r := by
  intro β σ tmps w g nm vs xs K h hI0 hv he
  unfold lawH at he
  cases h1 : Nat.beq g fr with
  | true =>
    rw [h1] at he
    obtain rfl := Nat.eq_of_beq_eq_true h1
    exact apartS_sound hfr h hv he
  | false =>
    rw [h1] at he
    cases h2 : Nat.beq g fs with
    | true =>
      rw [h2] at he
      obtain rfl := Nat.eq_of_beq_eq_true h2
      exact spoilS_sound hfs hn hnf hcI hold (hI0 tc (by simp)) h hv he
    | false =>
      rw [h2] at he
      exact callX_sound hT hS hI hD c 0 [] β σ tmps w g nm vs xs K h hv he

/-- A function as a whole, with data of the second colour. -/
noncomputable def evFnX (E : Env) (c f : Nat) (fn : Func) (vs : List V) : Option V :=
  match fn.body with
  | some code => evCode E (callX E c 0) 0 f code { fr := entry fn vs, outs := [], mem := [] } (finK E.tt fn)
  | none => none
/-- A law as a whole. -/
noncomputable def evFnL (E : Env) (c fr : Nat) (sfr : Summ) (fs : Nat) (ts : Ty) (tc : Nat) (f : Nat) (fn : Func) (vs : List V) : Option V :=
  match fn.body with
  | some code => evCode E (lawH E c fr sfr fs ts tc) 0 f code { fr := entry fn vs, outs := [], mem := [] } (finK E.tt fn)
  | none => none

theorem start_sim {fn : Func} {vs : List V} {B : Ty × Nat → Prop} {w : World} {xs : Array Value} (hB : ∀ b, B b → b.2 < w.heap.size) (hv : All2 (V3 (cxP B w)) vs xs.toList) :
    Sim (frmOf B w) (fun _ => none) { fr := entry fn vs, outs := [], mem := [] } [(xs ++ Array.replicate (fn.ntmps - xs.size) undef)] w := by
  have hfree : ∀ g, B g → Free (frmOf B w) [] (fun _ => none) w g := by
    intro g hg
    refine ⟨hB g hg, ?_⟩
    rintro (⟨e, L, h1, _⟩ | hh)
    · cases h1
    · rcases hh with hh | hh
      · exact hh.2 hg
      · have h1 := hh.1
        have h2 := hB g hg
        have h3 : (frmOf B w).w0.heap.size = w.heap.size := rfl
        omega
  refine ⟨⟨rfl, rfl, rfl, Nat.le_refl _, fun _ _ _ => rfl⟩, ⟨entry_rel (hv.mono fun a b hab => ?_), trivial⟩, (fun e E hE => by cases hE), (fun e e' L L' h1 => by cases h1), (fun e L h1 => by cases h1)⟩
  exact V3.keeps (S := cxP B w) (S' := ⟨[], fun _ => none, Free (frmOf B w) [] (fun _ => none) w, w⟩) ⟨(fun e E hE => by cases hE), (fun _ _ => rfl), hfree, (fun _ _ => rfl)⟩ hab

theorem evFnX_sound (hT : TtOk P E.tt) (hS : SumsOk P E) (hI : InlOk P E) (hD : ∀ (C : Frm) (r : V) (H : Handler V), HOk P C H r → DrawOk P E C H r) {f : FuncId} {fn : Func} {code : Code} (hf : P.funcs[f]? = some fn) (hb : fn.body = some code) {c : Nat} {vs : List V} {v : V}
    (he : evFnX E c f fn vs = some v) {B : Ty × Nat → Prop} {w : World} {xs : Array Value} (hB : ∀ b, B b → b.2 < w.heap.size) (hv : All2 (V3 (cxP B w)) vs xs.toList) :
    Calls P f xs w fun e w' => ∃ y, e = .returned y ∧ Ret B w w' v y := by
  refine calls_of_wp hf hb ?_
  unfold evFnX at he
  rw [hb] at he
  have hH := callX_sound (C := frmOf B w) (R := V) (r := v) hT hS hI (hD _ _) c 0
  exact wp_mono (evCode_sound hT hH (hD _ _ _ hH) code (finK E.tt fn) _ _ { tmps := xs ++ Array.replicate (fn.ntmps - xs.size) undef, defers := [] } w (start_sim hB hv) rfl he) fun e a' w' hg => finK_sound hT hg

theorem evFnL_sound (hT : TtOk P E.tt) (hS : SumsOk P E) (hI : InlOk P E) (hD : ∀ (C : Frm) (r : V) (H : Handler V), HOk P C H r → DrawOk P E C H r) {f : FuncId} {fn : Func} {code : Code} (hf : P.funcs[f]? = some fn) (hb : fn.body = some code)
    {c fr : Nat} {sfr : Summ} (hfr : SumOk P fr sfr) {fs : Nat} {ts : Ty} (hfs : SpoilOk P fs ts) (hn : nestI ts = true) (hnf : ts.flat = false) {tc : Nat} {vs : List V} {v : V} (hp : plainC [tc] code = true)
    (he : evFnL E c fr sfr fs ts tc f fn vs = some v) {B : Ty × Nat → Prop} {w : World} {xs : Array Value} (hB : ∀ b, B b → b.2 < w.heap.size) (hBI : ∀ g, ¬ B (.int .i64, g)) (hv : All2 (V3 (cxP B w)) vs xs.toList) {cs0 : List Int} (hcs : vs[tc]? = some (.ro cI cs0)) :
    Calls P f xs w fun e w' => ∃ y, e = .returned y ∧ Ret B w w' v y := by
  refine calls_of_wp hf hb ?_
  unfold evFnL at he
  rw [hb] at he
  obtain ⟨x, hx, hxv⟩ := hv.get hcs
  have hx0 : (xs ++ Array.replicate (fn.ntmps - xs.size) undef).getD tc undef = x := by
    have h1 : xs[tc]? = some x := by simpa using hx
    have h2 := (Array.getElem?_eq_some_iff.1 h1).1
    rw [Array.getD_eq_getD_getElem?, Array.getElem?_append_left h2, h1]
    rfl
  have hold : OldAt (frmOf B w) ((xs ++ Array.replicate (fn.ntmps - xs.size) undef).getD tc undef) cs0 := by
    rw [hx0]
    exact DRel.mono (t := .list cI) (fun g hg => ⟨hB g hg, fun hh => hh.2 hg, fun hh => hh⟩) (fun _ _ => rfl) (show DRel B w (.list cI) cs0 [x] from hxv)
  have hH := lawH_sound (C := frmOf B w) (R := V) (r := v) hT hS hI (hD _ _) (c := c) hfr hfs hn hnf (fun g hg => ⟨hg, hBI g⟩) hold
  exact wp_mono (evCodeI hT hH code (finK E.tt fn) _ _ { tmps := xs ++ Array.replicate (fn.ntmps - xs.size) undef, defers := [] } w hp (start_sim hB hv) rfl (fun t _ => rfl) he) fun e a' w' hg => finK_sound hT hg.1

/-- What is known of a function with data of the second colour. -/
theorem sum_x (hm : P.follows .mixedOrders = true) {f : FuncId} {fn : Func} {code : Code} {ts : List Ty} {rt : Type} {g : Dens ts → Option rt} {res : rt → V} {c : Nat} (E : Nat → Env) (hf : P.funcs[f]? = some fn) (hn : (fn.name == "runtime.NumGoroutine") = false) (hb : fn.body = some code)
    (hT : ∀ k, TtOk P (E k).tt) (hS : ∀ k, SumsOk P (E k)) (hI : ∀ k, InlOk P (E k)) (h : ∀ d x, g d = some x → ∃ k, evFnX (E k) c f fn (encL ts d) = some (res x)) : SumOk P f (summ ts rt g res) := by
  refine ⟨⟨fn, code, hf, hn, hb⟩, fun B w vs xs x hB hv hx => ?_, fun m hm => by cases hm⟩
  have hx : (decL ts vs).bind g = some x := hx
  cases hd : decL ts vs with
  | none => rw [hd] at hx; cases hx
  | some d =>
    rw [hd] at hx
    obtain ⟨k, hk⟩ := h d x hx
    exact evFnX_sound (hT k) (hS k) (hI k) (fun C r H hH => drawOk hm (hT k) (hS k) H hH) hf hb hk hB (decL_rel ts hv hd)

end
end

section
set_option maxRecDepth 100000
set_option linter.unusedVariables false
noncomputable def f51x.E (k : Nat) : Env := mkEnv tt [(92, S92), (95, S95), (98, S98), (99, S99), (100, S100), (101, S101)] [] [] [] k
noncomputable def f51x.code : Go.Code := (Go.Func.body Try.f51).getD .skip
theorem f51x.eq (k : Nat) (x0 : Int × List (Int × Int × Int)) (x1 : List Int) (x2 : Int) (x3 : Int) (x4 : Int) : evFnX (f51x.E k) 9 51 Try.f51 [(.agg [(.int .i64 (x0.fst)), (.ro (.pair (.int .i64) (.pair (.int .i64) (.int .i64))) (x0.snd))]), (.ro (.one (.one (.int .i64))) (x1)), (.int .i64 (x2)), (.int .i64 (x3)), (.int .i64 (x4))] =
  bif !capsMay x0 x1 then (some (.tup [(.own (.pair (.int .i64) (.list (.int .i64))) ([])), (.own (.int .i64) ([])), (.int .i64 ((1600 : Int)))])) else (bif !hasV x0.fst x2 then (some (.tup [(.own (.pair (.int .i64) (.list (.int .i64))) ([])), (.own (.int .i64) ([])), (.int .i64 ((1600 : Int)))])) else (bif !hasV x0.fst x3 then (some (.tup [(.own (.pair (.int .i64) (.list (.int .i64))) ([])), (.own (.int .i64) ([])), (.int .i64 ((1600 : Int)))])) else (bif x2 == x3 then (some (.tup [(.own (.pair (.int .i64) (.list (.int .i64))) ([])), (.own (.int .i64) ([])), (.int .i64 ((1600 : Int)))])) else (bif x4 == (0 : Int) then (some (.tup [(.own (.pair (.int .i64) (.list (.int .i64))) ([])), (.own (.int .i64) ([])), (.int .i64 ((1600 : Int)))])) else (bif !rateB x4 then (some (.tup [(.own (.pair (.int .i64) (.list (.int .i64))) ([])), (.own (.int .i64) ([])), (.int .i64 ((1600 : Int)))])) else ((pushC ((x0, x1, x2, x3, x4))).bind (fun y0 => bif y0.snd.snd != (0 : Int) then (some (.tup [(.own (.pair (.int .i64) (.list (.int .i64))) ([])), (.own (.int .i64) ([])), (.int .i64 ((1600 : Int)))])) else (bif decide (y0.snd.fst < x4) then ((chk (graphMay x0) (some (reachRes x0 x1 y0.fst x2))).bind (fun y1 => some (.tup [(.own (.pair (.int .i64) (.list (.int .i64))) ([])), (.own (.int .i64) (y1.fst)), (.int .i64 ((0 : Int)))]))) else ((splitC ((x0, y0.fst, x2, x3))).bind (fun y1 => some (.tup [(.own (.pair (.int .i64) (.list (.int .i64))) (y1.fst)), (.own (.int .i64) ([])), (.int .i64 ((0 : Int)))]))))))))))) := by kernel_rfl
theorem f51x.inl (k : Nat) : InlOk Try.prog (f51x.E k) := inl_nil
theorem f51x.sums (k : Nat) : SumsOk Try.prog (f51x.E k) := (sums_cons ok92 (sums_cons ok95 (sums_cons ok98 (sums_cons ok99 (sums_cons ok100 (sums_cons ok101 sums_nil))))))
end

section
set_option linter.unusedVariables false
set_option maxRecDepth 100000

def routeXP (d : Gr × (List Int × (Int × (Int × Int)))) (x : List Pt × (List Int × Int)) : Prop :=
  routeQ d x ∧ ∃ k, evFnX (f51x.E k) 9 51 Try.f51 (encL [tG, .list cI, tI, tI, tI] d) = some (resRt x)
noncomputable def routeXC (d : Gr × (List Int × (Int × (Int × Int)))) : Option (List Pt × (List Int × Int)) := relC routeXP d

theorem f51x_is (d : Gr × (List Int × (Int × (Int × Int)))) : ∃ x, routeXP d x := by
  obtain ⟨g, cs, src, dst, want⟩ := d
  cases hf : routeForm g cs src dst want with
  | false =>
    refine ⟨([], ([], 1600)), ?_, 1, (f51x.eq _ g cs src dst want).trans ?_⟩
    · unfold routeQ
      dsimp only
      rw [hf, cF]
    · unfold routeForm at hf
      revert hf
      cases capsMay g cs <;> cases hasV g.1 src <;> cases hasV g.1 dst <;> cases src == dst <;> cases want == 0 <;> cases rateB want <;> intro hf <;> simp only [Bool.not_true, Bool.not_false, cT, cF] <;> cases hf
  | true =>
    have hf' := hf
    unfold routeForm at hf'
    simp only [Bool.and_eq_true, Bool.not_eq_true'] at hf'
    obtain ⟨hc, hs, hd, hne, hw0, hm⟩ := hf'
    have hm' : 0 ≤ want ∧ want ≤ maxRate := of_decide_eq_true hm
    have hs' : 0 ≤ src ∧ src < g.1 := of_decide_eq_true hs
    have hd' : 0 ≤ dst ∧ dst < g.1 := of_decide_eq_true hd
    have hw0' := ne_of_beq_false hw0
    have hne' := ne_of_beq_false hne
    have hg := caps_graph hc
    obtain ⟨y, y1, y2⟩ := pushC_is (g := g) (cs := cs) (src := src) (dst := dst) (want := want)
    unfold pushQ at y2
    dsimp only at y2
    rw [show pushForm g cs src dst want = true by unfold pushForm; rw [hc, hs, hd, hne, hm]; rfl, cT] at y2
    obtain ⟨y2, y3⟩ := y2
    have hle := y3.le
    have ev : ∀ {r : V}, (bif decide (y.2.1 < want) then ((chk (graphMay g) (some (reachRes g cs y.1 src))).bind (fun y1 => some (.tup [(.own (.pair (.int .i64) (.list (.int .i64))) ([])), (.own (.int .i64) (y1.fst)), (.int .i64 ((0 : Int)))]))) else ((splitC ((g, y.fst, src, dst))).bind (fun y1 => some (.tup [(.own (.pair (.int .i64) (.list (.int .i64))) (y1.fst)), (.own (.int .i64) ([])), (.int .i64 ((0 : Int)))])))) = some r → evFnX (f51x.E 1) 9 51 Try.f51 (encL [tG, .list cI, tI, tI, tI] ((g, (cs, (src, (dst, want)))) : Gr × (List Int × (Int × (Int × Int))))) = some r := fun h => (f51x.eq _ g cs src dst want).trans (by
      rw [hc, hs, hd, hne, hw0, hm, Bool.not_true, cF, cF, cF, cF, cF, cF, y1, bS, y2, show ((0 : Int) != 0) = false by rfl, cF]
      exact h)
    by_cases hlt : y.2.1 < want
    · have hno := y3.less hlt
      obtain ⟨z1, z2⟩ := y3.flow.full hc hs' hd' hno
      have hL : levelsRes g cs y.1 src = (levelsOf g cs y.1 src, 0) := by
        unfold levelsRes liesB
        rw [hc, y3.flow.within, hs]
        rfl
      refine ⟨([], (reachL (levelsOf g cs y.1 src), 0)), ?_, 1, ev ?_⟩
      · unfold routeQ
        dsimp only
        rw [hf, cT]
        exact ⟨rfl, ⟨.inr ⟨rfl, z1, by rw [z2, y3.gain]; exact hlt⟩⟩⟩
      · rw [decide_eq_true hlt, cT, hg, kT, bS]
        unfold reachRes
        rw [hL, show ((0 : Int) != 0) = false by rfl, cF]
    · have hv : gainV g.2 y.1 src = want := by rw [y3.gain]; omega
      obtain ⟨ps, p1, p2⟩ := splitC_is hc y3.flow hs hd hne'
      obtain ⟨q1, q2⟩ := p2.fits hc y3.flow hv (by omega)
      refine ⟨(ps, ([], 0)), ?_, 1, ev ?_⟩
      · unfold routeQ
        dsimp only
        rw [hf, cT]
        refine ⟨rfl, ⟨.inl ⟨rfl, q1, q2, fun us h1 h2 => ?_⟩⟩⟩
        rw [← hv]
        exact y3.flow.least hc hs' h1 h2
      · rw [decide_eq_false hlt, cF, p1, bS]

theorem routeXC_is (d : Gr × (List Int × (Int × (Int × Int)))) : ∃ x, routeXC d = some x ∧ routeQ d x := by
  obtain ⟨y, e1, e2⟩ := relC_is (f51x_is d)
  exact ⟨y, e1, e2.1⟩

noncomputable def S51x : Summ := summ [tG, .list cI, tI, tI, tI] (List Pt × (List Int × Int)) routeXC resRt
theorem ok51x : SumOk Try.prog 51 S51x :=
  sum_x hmix f51x.E (fn := Try.f51) (code := f51x.code) (by kernel_rfl) (by kernel_rfl) (by kernel_rfl) (fun _ => ttOk) f51x.sums f51x.inl fun d x hx => (relC_some (P := routeXP) hx).2

/-- Is a vertex in the set that bits tell? -/
def bitB (bits v : Int) : Bool := bitsI Go.BinOp.and Go.IntKind.i64 (bits.fdiv ((2 : Int) ^ min (Go.IntKind.u64.wrap v).toNat (64 : Nat))) (1 : Int) == (1 : Int)
def setOf (m : Nat) (bits : Int) : List Int := (upto m).filter (bitB bits)

theorem f102.l0_is (k : Nat) (bits : Int) (m : Int) (gl : List Lk) (hm : m ≤ 8) : ∀ (n i : Nat) (out : List Int), i ≤ m.toNat → m.toNat < n + i → out.length ≤ i →
    f102.l0 k n bits (i : Int) m gl out = some (.own tI (out ++ ((upto m.toNat).drop i).filter (bitB bits)))
  | 0, i, out, h, h', _ => by omega
  | n + 1, i, out, h, h', hl => by
    rw [f102.l0_eq]
    by_cases hlt : i < m.toNat
    · have hu : i < (upto m.toNat).length := by rw [upto_length]; exact hlt
      have hg : (upto m.toNat)[i] = (i : Int) := (List.getElem?_eq_some_iff.1 (upto_get hlt)).2
      have hw : ∀ j : Nat, j < 8 → decide ((0 : Int) ≤ Go.IntKind.u64.wrap (j : Int)) = true := by decide
      rw [decide_eq_true (by omega : (i : Int) < m), cT, hw i (by omega), kT, drop_filter _ hu, hg, wrap_succ (by omega)]
      show (bif bitB bits (i : Int) then _ else _) = _
      cases bitB bits (i : Int) with
      | true =>
        rw [cT, cT, chk_eq (decide_eq_true (by rw [List.length_append, List.length_singleton]; omega)), f102.l0_is k bits m gl hm n (i + 1) _ (by omega) (by omega) (by rw [List.length_append, List.length_singleton]; omega), List.append_assoc]
        rfl
      | false => rw [cF, cF, f102.l0_is k bits m gl hm n (i + 1) _ (by omega) (by omega) (by omega)]
    · rw [decide_eq_false (by omega : ¬ (i : Int) < m), cF, List.drop_eq_nil_of_le (by rw [upto_length]; omega), List.filter_nil, List.append_nil]

noncomputable def S102 : Summ := summ [tG, tI] (List Int) (fun (d : Gr × Int) => chk (decide (d.1.1 ≤ 8)) (some (setOf d.1.1.toNat d.2))) (.own tI)
theorem ok102 : SumOk Try.prog 102 S102 :=
  sum_k hmix f102.E (fn := Try.f102) (code := f102.code) (by kernel_rfl) (by kernel_rfl) (by kernel_rfl) (fun _ => ttOk) f102.sums f102.inl fun (d : Gr × Int) x hx => by
    obtain ⟨g, bits⟩ := d
    obtain ⟨hm, hx⟩ := chk_some hx
    obtain rfl := Option.some.inj hx
    have hm : g.1 ≤ 8 := of_decide_eq_true hm
    refine ⟨g.1.toNat + 1, (f102.eq _ g bits).trans ?_⟩
    have := f102.l0_is (g.1.toNat + 1) bits g.1 g.2 hm (g.1.toNat + 1) 0 [] (by omega) (by omega) (by simp)
    rw [List.nil_append, List.drop_zero] at this
    exact this
end

section
set_option maxRecDepth 100000
set_option linter.unusedVariables false
noncomputable def f53.E (k : Nat) : Env := mkEnv tt [(45, S45), (102, S102)] [] [(53, 3, [.kill (rg [(0, 0), (5, 8), (11, 48)]), .tidy])] [] k
noncomputable def f53.code : Go.Code := (Go.Func.body Try.f53).getD .skip
noncomputable def f53.l0 (k n : Nat) (p0 : List Int) (p1 : Int) (p2 : Int) (p3 : Int) (p4 : Int) (p5 : Int) (p6 : List (Int × Int × Int)) : Option V :=
  atPath (f53.E k) n ⟨[.undef, (.ro (.int .i64) (p0)), (.int .i64 (p1)), (.int .i64 (p2)), (.ptr (1048592 : Nat) ((0 : Nat)) ((0 : Nat))), .undef, .undef, .undef, .undef, (.int .i64 (p3)), (.int .i64 (p4)), .undef, .undef, .undef, .undef, .undef, .undef, .undef, .undef, .undef, .undef, .undef, .undef, .undef, .undef, .undef, .undef, .undef, .undef, .undef, .undef, .undef, .undef, .undef, .undef, .undef, .undef, .undef, .undef, .undef, .undef, .undef, .undef, .undef, .undef, .undef, .undef, .undef, .undef], [], [((1048592 : Nat), .box [(.int .i64 (p5)), (.ro (.pair (.int .i64) (.pair (.int .i64) (.int .i64))) (p6))])]⟩ 9 0 53 [.c 1, .c 1, .c 0, .c 1, .c 0] [] f53.code (finK tt Try.f53)
theorem f53.l0_eq (k n : Nat) (p0 : List Int) (p1 : Int) (p2 : Int) (p3 : Int) (p4 : Int) (p5 : Int) (p6 : List (Int × Int × Int)) : f53.l0 k (n + 1) p0 p1 p2 p3 p4 p5 p6 =
  chk (decide ((0 : Int) ≤ Go.IntKind.u64.wrap p5)) (bif decide (p4 < Go.IntKind.i64.wrap ((1 : Int) * (2 : Int) ^ min (Go.IntKind.u64.wrap p5).toNat (64 : Nat))) then (chk (decide ((0 : Int) ≤ Go.IntKind.u64.wrap p1)) (bif bitsI Go.BinOp.and Go.IntKind.i64 (p4.fdiv ((2 : Int) ^ min (Go.IntKind.u64.wrap p1).toNat (64 : Nat))) (1 : Int) == (1 : Int) then (chk (decide ((0 : Int) ≤ Go.IntKind.u64.wrap p2)) (bif bitsI Go.BinOp.and Go.IntKind.i64 (p4.fdiv ((2 : Int) ^ min (Go.IntKind.u64.wrap p2).toNat (64 : Nat))) (1 : Int) == (0 : Int) then ((chk (decide (p5 ≤ (8 : Int))) (some (setOf p5.toNat p4))).bind (fun y0 => (chk (decide (y0.length < (4611686018427387904 : Nat))) (some (worth (p5, p6) p0 y0))).bind (fun y1 => bif decide (y1.fst < p3) then (f53.l0 k n (p0) (p1) (p2) (y1.fst) (Go.IntKind.i64.wrap (p4 + (1 : Int))) (p5) (p6)) else (f53.l0 k n (p0) (p1) (p2) (p3) (Go.IntKind.i64.wrap (p4 + (1 : Int))) (p5) (p6))))) else (f53.l0 k n (p0) (p1) (p2) (p3) (Go.IntKind.i64.wrap (p4 + (1 : Int))) (p5) (p6)))) else (f53.l0 k n (p0) (p1) (p2) (p3) (Go.IntKind.i64.wrap (p4 + (1 : Int))) (p5) (p6)))) else (some (.int .i64 (p3)))) := by kernel_rfl
theorem f53.eq (k : Nat) (x0 : Int × List (Int × Int × Int)) (x1 : List Int) (x2 : Int) (x3 : Int) : evFn (f53.E k) 9 53 Try.f53 [(.agg [(.int .i64 (x0.fst)), (.ro (.pair (.int .i64) (.pair (.int .i64) (.int .i64))) (x0.snd))]), (.ro (.int .i64) (x1)), (.int .i64 (x2)), (.int .i64 (x3))] =
  f53.l0 k k (x1) (x2) (x3) ((4611686018427387904 : Int)) ((0 : Int)) (x0.fst) (x0.snd) := by kernel_rfl
theorem f53.inl (k : Nat) : InlOk Try.prog (f53.E k) := inl_nil
theorem f53.sums (k : Nat) : SumsOk Try.prog (f53.E k) := (sums_cons ok45 (sums_cons ok102 sums_nil))
end

section
set_option linter.unusedVariables false
set_option maxRecDepth 100000

theorem bits_all : ((List.range 256).all fun b => (List.range 8).all fun v => bitsI Go.BinOp.and Go.IntKind.i64 (((b : Nat) : Int).fdiv ((2 : Int) ^ min (Go.IntKind.u64.wrap ((v : Nat) : Int)).toNat (64 : Nat))) (1 : Int) == (bif Nat.testBit b v then (1 : Int) else 0)) = true := by decide +kernel

theorem bits_at {b v : Nat} (hb : b < 256) (hv : v < 8) : bitsI Go.BinOp.and Go.IntKind.i64 (((b : Nat) : Int).fdiv ((2 : Int) ^ min (Go.IntKind.u64.wrap ((v : Nat) : Int)).toNat (64 : Nat))) (1 : Int) = bif Nat.testBit b v then (1 : Int) else 0 :=
  eq_of_beq (List.all_eq_true.1 (List.all_eq_true.1 bits_all b (List.mem_range.2 hb)) v (List.mem_range.2 hv))

theorem bitB_at {b v : Nat} (hb : b < 256) (hv : v < 8) : bitB (b : Int) (v : Int) = Nat.testBit b v := by
  unfold bitB
  rw [bits_at hb hv]
  cases Nat.testBit b v <;> rfl

/-- Each set of vertices has its bits. -/
theorem bits_of (p : Nat → Bool) : ∀ m : Nat, ∃ b, b < 2 ^ m ∧ ∀ v, v < m → Nat.testBit b v = p v
  | 0 => ⟨0, by decide, fun v hv => by omega⟩
  | m + 1 => by
    obtain ⟨b, h1, h2⟩ := bits_of p m
    have hp : 2 ^ (m + 1) = 2 ^ m + 2 ^ m := by rw [Nat.pow_succ]; omega
    cases hm : p m with
    | false =>
      refine ⟨b, by omega, fun v hv => ?_⟩
      by_cases he : v = m
      · subst he
        rw [hm]
        exact Nat.testBit_lt_two_pow h1
      · exact h2 v (by omega)
    | true =>
      refine ⟨2 ^ m + b, by omega, fun v hv => ?_⟩
      by_cases he : v = m
      · subst he
        rw [hm, Nat.testBit_two_pow_add_eq, Nat.testBit_lt_two_pow h1]
        rfl
      · rw [Nat.testBit_two_pow_add_gt (by omega)]
        exact h2 v (by omega)

def cutB (m : Nat) (src dst : Int) (b : Nat) : Bool := bitB (b : Int) src && !bitB (b : Int) dst

structure LeastOk (g : Gr) (cs : List Int) (src dst best : Int) (i : Nat) (x : Int) : Prop where
  le : x ≤ best
  all : ∀ b : Nat, i ≤ b → b < 2 ^ g.1.toNat → cutB g.1.toNat src dst b = true → x ≤ worthL (setOf g.1.toNat (b : Int)) g.2 cs
  hit : x = best ∨ ∃ b : Nat, b < 2 ^ g.1.toNat ∧ cutB g.1.toNat src dst b = true ∧ x = worthL (setOf g.1.toNat (b : Int)) g.2 cs

theorem f53.l0_is (k : Nat) {g : Gr} {cs : List Int} {src dst : Int} (hc : capsMay g cs = true) (hs : 0 ≤ src ∧ src < g.1) (hd : 0 ≤ dst ∧ dst < g.1) : ∀ (n i : Nat) (best : Int), i ≤ 2 ^ g.1.toNat → 2 ^ g.1.toNat < n + i →
    ∃ x, f53.l0 k n cs src dst best (i : Int) g.1 g.2 = some (.int .i64 x) ∧ LeastOk g cs src dst best i x
  | 0, i, best, h, h' => by omega
  | n + 1, i, best, h, h' => by
    have hg := caps_graph hc
    have hp := graphMay_parts hg
    have hpow : 2 ^ g.1.toNat ≤ 256 := Nat.pow_le_pow_right (n := 2) (by omega) (show g.1.toNat ≤ 8 by omega)
    have hw : ∀ j : Nat, j ≤ 8 → decide ((0 : Int) ≤ Go.IntKind.u64.wrap (j : Int)) = true ∧ Go.IntKind.i64.wrap ((1 : Int) * (2 : Int) ^ min (Go.IntKind.u64.wrap (j : Int)).toNat (64 : Nat)) = ((2 ^ j : Nat) : Int) := by decide
    have hm := hw g.1.toNat (by omega)
    rw [show ((g.1.toNat : Nat) : Int) = g.1 by omega] at hm
    have hsn : ((src.toNat : Nat) : Int) = src := by omega
    have hdn : ((dst.toNat : Nat) : Int) = dst := by omega
    have h1 := (hw src.toNat (by omega)).1
    have h2 := (hw dst.toNat (by omega)).1
    rw [hsn] at h1
    rw [hdn] at h2
    rw [f53.l0_eq, hm.1, hm.2, kT, h1, h2]
    by_cases hlt : i < 2 ^ g.1.toNat
    · have b2 := bits_at (b := i) (v := dst.toNat) (by omega) (by omega)
      rw [hdn] at b2
      have e1 : (bitsI Go.BinOp.and Go.IntKind.i64 (((i : Nat) : Int).fdiv ((2 : Int) ^ min (Go.IntKind.u64.wrap src).toNat (64 : Nat))) (1 : Int) == (1 : Int)) = bitB (i : Int) src := rfl
      have e2 : (bitsI Go.BinOp.and Go.IntKind.i64 (((i : Nat) : Int).fdiv ((2 : Int) ^ min (Go.IntKind.u64.wrap dst).toNat (64 : Nat))) (1 : Int) == (0 : Int)) = !bitB (i : Int) dst := by
        have e3 := bitB_at (b := i) (v := dst.toNat) (by omega) (by omega)
        rw [hdn] at e3
        rw [e3, b2]
        cases Nat.testBit i dst.toNat <;> rfl
      have hst : (setOf g.1.toNat (i : Int)).length ≤ 8 := by
        have := List.length_filter_le (bitB (i : Int)) (upto g.1.toNat)
        rw [upto_length] at this
        exact Nat.le_trans this (by omega)
      have hwo : worth (g.1, g.2) cs (setOf g.1.toNat (i : Int)) = (worthL (setOf g.1.toNat (i : Int)) g.2 cs, 0) := by
        have hr := upto_rising g.1.toNat (bitB (i : Int)) g.1.toNat 0 none (by omega) (fun q hq => by cases hq)
        rw [List.drop_zero, show ((g.1.toNat : Nat) : Int) = g.1 by omega] at hr
        unfold worth
        rw [show risingB (g.1, g.2).1 none (setOf g.1.toNat (i : Int)) = true from hr, show capsMay (g.1, g.2) cs = true from hc]
        rfl
      have hwr : Go.IntKind.i64.wrap ((i : Int) + 1) = ((i + 1 : Nat) : Int) := wrap_succ (by omega)
      have skip : cutB g.1.toNat src dst i = false → ∃ x, f53.l0 k n cs src dst best ((i + 1 : Nat) : Int) g.1 g.2 = some (.int .i64 x) ∧ LeastOk g cs src dst best i x := fun hn => by
        obtain ⟨x, x1, x2⟩ := f53.l0_is k hc hs hd n (i + 1) best (by omega) (by omega)
        refine ⟨x, x1, x2.le, fun b hb hb' hcut => ?_, x2.hit⟩
        by_cases he : b = i
        · subst he
          rw [hn] at hcut
          cases hcut
        · exact x2.all b (by omega) hb' hcut
      rw [decide_eq_true (by omega : (i : Int) < ((2 ^ g.1.toNat : Nat) : Int)), cT, kT, kT, e1, e2, hwr]
      cases c1 : bitB (i : Int) src with
      | false => rw [cF]; exact skip (by unfold cutB; rw [c1]; rfl)
      | true =>
        rw [cT]
        cases c2 : bitB (i : Int) dst with
        | true => rw [Bool.not_true, cF]; exact skip (by unfold cutB; rw [c1, c2]; rfl)
        | false =>
          have hcut : cutB g.1.toNat src dst i = true := by unfold cutB; rw [c1, c2]; rfl
          rw [Bool.not_false, cT, decide_eq_true (by omega : g.1 ≤ 8), kT, bS, decide_eq_true (by omega : (setOf g.1.toNat (i : Int)).length < 4611686018427387904), kT, bS, hwo]
          by_cases hb : worthL (setOf g.1.toNat (i : Int)) g.2 cs < best
          · rw [decide_eq_true hb, cT]
            obtain ⟨x, x1, x2⟩ := f53.l0_is k hc hs hd n (i + 1) (worthL (setOf g.1.toNat (i : Int)) g.2 cs) (by omega) (by omega)
            refine ⟨x, x1, by have := x2.le; omega, fun b hb1 hb' hcut' => ?_, .inr ?_⟩
            · by_cases he : b = i
              · subst he
                exact x2.le
              · exact x2.all b (by omega) hb' hcut'
            · rcases x2.hit with hx | hx
              · exact ⟨i, hlt, hcut, hx⟩
              · exact hx
          · rw [decide_eq_false hb, cF]
            obtain ⟨x, x1, x2⟩ := f53.l0_is k hc hs hd n (i + 1) best (by omega) (by omega)
            refine ⟨x, x1, x2.le, fun b hb1 hb' hcut' => ?_, x2.hit⟩
            by_cases he : b = i
            · subst he
              have := x2.le
              omega
            · exact x2.all b (by omega) hb' hcut'
    · obtain rfl : i = 2 ^ g.1.toNat := by omega
      rw [decide_eq_false (by omega : ¬ ((2 ^ g.1.toNat : Nat) : Int) < ((2 ^ g.1.toNat : Nat) : Int)), cF]
      exact ⟨best, rfl, Int.le_refl _, fun b h1 h2 => by omega, .inl rfl⟩

/-- What the least cut is. -/
structure LeastIs (g : Gr) (cs : List Int) (src dst x : Int) : Prop where
  all : ∀ vs, amongB vs src = true → amongB vs dst = false → x ≤ worthL vs g.2 cs
  hit : x = maxRate ∨ ∃ vs, amongB vs src = true ∧ amongB vs dst = false ∧ x = worthL vs g.2 cs

theorem worth_same {vs us : List Int} : ∀ {gl : List Lk} {cs : List Int}, (∀ l ∈ gl, amongB vs l.1 = amongB us l.1 ∧ amongB vs l.2.1 = amongB us l.2.1) → worthL vs gl cs = worthL us gl cs
  | [], cs, _ => by simp [worthL]
  | l :: gl, [], _ => by simp [worthL]
  | l :: gl, c :: cs, h => by
    have ih := worth_same (vs := vs) (us := us) (gl := gl) (cs := cs) fun l hl => h l (by simp [hl])
    obtain ⟨h1, h2⟩ := h l (by simp)
    simp only [worthL, leavesB, h1, h2, ih]

theorem set_among {m : Nat} {b v : Int} (hv : 0 ≤ v ∧ v < (m : Int)) : amongB (setOf m b) v = bitB b v := by
  cases h : bitB b v with
  | true => exact among_mem.2 (List.mem_filter.2 ⟨upto_mem.2 hv, h⟩)
  | false =>
    cases hb : amongB (setOf m b) v with
    | false => rfl
    | true =>
      have := (List.mem_filter.1 (among_mem.1 hb)).2
      rw [h] at this
      cases this

theorem LeastOk.is {g : Gr} {cs : List Int} {src dst x : Int} (hc : capsMay g cs = true) (hs : 0 ≤ src ∧ src < g.1) (hd : 0 ≤ dst ∧ dst < g.1) (h : LeastOk g cs src dst maxRate 0 x) : LeastIs g cs src dst x := by
  have hg := caps_graph hc
  have hp := graphMay_parts hg
  have hpow : 2 ^ g.1.toNat ≤ 256 := Nat.pow_le_pow_right (n := 2) (by omega) (show g.1.toNat ≤ 8 by omega)
  have hin : ∀ v, 0 ≤ v ∧ v < g.1 → 0 ≤ v ∧ v < ((g.1.toNat : Nat) : Int) := fun v hv => by omega
  refine ⟨fun vs h1 h2 => ?_, ?_⟩
  · obtain ⟨b, b1, b2⟩ := bits_of (fun v => amongB vs (v : Int)) g.1.toNat
    have same : ∀ v, 0 ≤ v ∧ v < g.1 → amongB (setOf g.1.toNat (b : Int)) v = amongB vs v := fun v hv => by
      rw [set_among (hin v hv)]
      have e := bitB_at (b := b) (v := v.toNat) (by omega) (by omega)
      rw [show ((v.toNat : Nat) : Int) = v by omega] at e
      rw [e, b2 v.toNat (by omega), show ((v.toNat : Nat) : Int) = v by omega]
    have hcut : cutB g.1.toNat src dst b = true := by
      unfold cutB
      rw [← set_among (hin src hs), ← set_among (hin dst hd), same src hs, same dst hd, h1, h2]
      rfl
    have := h.all b (by omega) b1 hcut
    rwa [worth_same (us := vs) fun l hl => by
      obtain ⟨i, hi⟩ := List.mem_iff_getElem?.1 hl
      obtain ⟨l1, l2, _⟩ := link_at hg hi
      exact ⟨same _ l1, same _ l2⟩] at this
  · rcases h.hit with hx | ⟨b, b1, b2, b3⟩
    · exact .inl hx
    · refine .inr ⟨_, ?_, ?_, b3⟩ <;> unfold cutB at b2 <;> simp only [Bool.and_eq_true, Bool.not_eq_true'] at b2
      · rw [set_among (hin src hs)]; exact b2.1
      · rw [set_among (hin dst hd)]; exact b2.2

def leastP (d : Gr × (List Int × (Int × Int))) (x : Int) : Prop :=
  LeastIs d.1 d.2.1 d.2.2.1 d.2.2.2 x ∧ ∃ k, evFn (f53.E k) 9 53 Try.f53 (encL [tG, tL, tI, tI] d) = some (.int .i64 x)
noncomputable def leastC (d : Gr × (List Int × (Int × Int))) : Option Int := relC leastP d
theorem leastC_is {g : Gr} {cs : List Int} {src dst : Int} (hc : capsMay g cs = true) (hs : 0 ≤ src ∧ src < g.1) (hd : 0 ≤ dst ∧ dst < g.1) : ∃ x, leastC (g, (cs, (src, dst))) = some x ∧ LeastIs g cs src dst x := by
  obtain ⟨x, x1, x2⟩ := f53.l0_is (2 ^ g.1.toNat + 1) hc hs hd (2 ^ g.1.toNat + 1) 0 maxRate (Nat.zero_le _) (Nat.lt_succ_self _)
  obtain ⟨y, y1, y2⟩ := relC_is (P := leastP) (x := (g, (cs, (src, dst)))) ⟨x, x2.is hc hs hd, 2 ^ g.1.toNat + 1, (f53.eq _ g cs src dst).trans x1⟩
  exact ⟨y, y1, y2.1⟩

noncomputable def S53 : Summ := summ [tG, tL, tI, tI] Int leastC (.int .i64)
theorem ok53 : SumOk Try.prog 53 S53 :=
  sum_k hmix f53.E (fn := Try.f53) (code := f53.code) (by kernel_rfl) (by kernel_rfl) (by kernel_rfl) (fun _ => ttOk) f53.sums f53.inl fun d x hx => (relC_some (P := leastP) hx).2
end

end Go.Proofs.Ytiboikgoaihccaa.R
